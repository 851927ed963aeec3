/-
  The reference of rat: Search.
-/
import Derived.Test.YtjkgncibelojnaaGreatRuV
import Derived.Test.YtjkgncibelojnaaGreatRaW
set_option linter.unusedVariables false
set_option linter.unusedSimpArgs false
namespace Go.Proofs.S
open Go Go.Sx Go.Proofs Go.Cl Go.Rp Go.Rt
variable {h h0 : Heap} {c d A ids : List Int} {l : List Ent} {gs : List Grp} {s s2 s3 s4 s5 sc : Sl} {fr : Fr} {G As : List Asn} {id p : Int} {i b0 b12 : Nat} {x y z : Sl} {v1 v2 v3 : Value}
def SrTl (a0 a1 : Sl) (b0 b12 : Nat) (al : Sl) (K : ((Sl × (Sl × (Sl × Unit))) × (Int × (Bool × Unit))) → HP) (A0 : Sl) : HP :=
 sx a1.a a1.len (0 : Int) 1 fun p31 =>
 ldT (.int .i64) p31 fun x32 =>
 callT Tryz.prog fn_salvorref09_Candidates #[(.slice a0.a a0.len a0.cap), (.int .i64 x32)] .sl fun r33 =>
 lfp (σ := (Int × (Bool × (Int × Unit)))) (fun X34 s35 =>
 brB (decide (s35.1 < (r33.len : Int)))
 (sx r33.a r33.len s35.1 1 fun p36 =>
 ldT (.int .i64) p36 fun x37 =>
 nw #[(.int .i64 (0 : Int)), (.slice none 0 0)] ty_salvorref09_Group fun b38 =>
 st1 (⟨b38, 0, none⟩ : Addr) (.int .i64 x37) <|
 st1 ((⟨b38, 0, none⟩ : Addr).add 1) (.slice none 0 0) <|
 sx r33.a r33.len s35.1 1 fun p39 =>
 ldT (.int .i64) p39 fun x40 =>
 sx a1.a a1.len (0 : Int) 1 fun p41 =>
 ldT (.int .i64) p41 fun x42 =>
 callT Tryz.prog fn_salvorref09_find #[(.slice a0.a a0.len a0.cap), (.int .i64 x40)] (.int .i64) fun r43 =>
 ck p41 (.int .i64 x42) <|
 sx a0.a a0.len r43 2 fun p44 =>
 ldT .sl (p44.add 1) fun x45 =>
 callT Tryz.prog fn_salvorref09_open #[(.slice x45.a x45.len x45.cap), (.int .i64 x42), (.slice A0.a A0.len A0.cap)] (.tup (.cons .sl (.cons .bool .nil))) fun r46 =>
 jn (σ := (Bool × (Int × Unit))) (fun s48 =>
 ldT .sl ((⟨b12, 0, none⟩ : Addr).add 2) fun x49 =>
 ldA (.cons (.int .i64) (.cons .sl .nil)) (⟨b38, 0, none⟩ : Addr) fun x50 =>
 nw #[(.int .i64 x50.1), (.slice x50.2.1.a x50.2.1.len x50.2.1.cap)] ty_salvorref09_Group fun b51 =>
 apd ty_salvorref09_Group 2 32 #[(.int .i64 (0 : Int)), (.slice none 0 0)] ⟨x49.a, x49.len, x49.cap⟩ ⟨(some (⟨b51, 0, none⟩ : Addr)), 1, 1⟩ fun s52 =>
 st1 ((⟨b12, 0, none⟩ : Addr).add 2) (.slice s52.a s52.len s52.cap) <|
 X34 ((IntKind.wrap .i64 (s35.1 + (1 : Int))), s48.1, s48.2.1, ()))
 (fun J47 =>
 brB r46.2.1
 (lfp (σ := (Int × (Sl × Unit))) (fun X53 s54 =>
 brB (decide (s54.1 < (r46.1.len : Int)))
 (sx r46.1.a r46.1.len s54.1 1 fun p55 =>
 ldT (.int .i64) p55 fun x56 =>
 nw #[(.int .i64 (IntKind.wrap .i64 (0 - x56)))] ty_int fun b57 =>
 apd ty_int 1 8 #[(.int .i64 (0 : Int))] ⟨s54.2.1.a, s54.2.1.len, s54.2.1.cap⟩ ⟨(some (⟨b57, 0, none⟩ : Addr)), 1, 1⟩ fun s58 =>
 X53 ((IntKind.wrap .i64 (s54.1 + (1 : Int))), ⟨s58.a, s58.len, s58.cap⟩, ()))
 (brB (decide ((s54.2.1.len : Int) > (4096 : Int)))
 (st1 (⟨b0, 0, none⟩ : Addr) (.slice none 0 0) <|
 st1 ((⟨b0, 0, none⟩ : Addr).add 1) (.slice none 0 0) <|
 st1 ((⟨b0, 0, none⟩ : Addr).add 2) (.slice none 0 0) <|
 ldA (.cons .sl (.cons .sl (.cons .sl .nil))) (⟨b0, 0, none⟩ : Addr) fun x59 =>
 K ((⟨x59.1.a, x59.1.len, x59.1.cap⟩, ⟨x59.2.1.a, x59.2.1.len, x59.2.1.cap⟩, ⟨x59.2.2.1.a, x59.2.2.1.len, x59.2.2.1.cap⟩, ()), (0 : Int), false, ()))
 (callT Tryz.prog fn_salvorref08_Find #[(.slice s54.2.1.a s54.2.1.len s54.2.1.cap), (.slice al.a al.len al.cap)] (.tup (.cons .sl (.cons .bool .nil))) fun r60 =>
 brB (!r60.2.1)
 (st1 (⟨b0, 0, none⟩ : Addr) (.slice none 0 0) <|
 st1 ((⟨b0, 0, none⟩ : Addr).add 1) (.slice none 0 0) <|
 st1 ((⟨b0, 0, none⟩ : Addr).add 2) (.slice none 0 0) <|
 ldA (.cons .sl (.cons .sl (.cons .sl .nil))) (⟨b0, 0, none⟩ : Addr) fun x61 =>
 K ((⟨x61.1.a, x61.1.len, x61.1.cap⟩, ⟨x61.2.1.a, x61.2.1.len, x61.2.1.cap⟩, ⟨x61.2.2.1.a, x61.2.2.1.len, x61.2.2.1.cap⟩, ()), (0 : Int), false, ()))
 (callT Tryz.prog fn_salvorref09_named #[(.slice a0.a a0.len a0.cap), (.slice r60.1.a r60.1.len r60.1.cap)] .sl fun r62 =>
 st1 ((⟨b38, 0, none⟩ : Addr).add 1) (.slice r62.a r62.len r62.cap) <|
 J47 (s35.2.1, s35.2.2.1, ())))))
 ((0 : Int), ⟨none, 0, 0⟩, ()))
 (J47 (s35.2.1, s35.2.2.1, ()))))
 (ldA (.cons .sl (.cons .sl (.cons .sl .nil))) (⟨b12, 0, none⟩ : Addr) fun x63 =>
 st1 (⟨b0, 0, none⟩ : Addr) (.slice x63.1.a x63.1.len x63.1.cap) <|
 st1 ((⟨b0, 0, none⟩ : Addr).add 1) (.slice x63.2.1.a x63.2.1.len x63.2.1.cap) <|
 st1 ((⟨b0, 0, none⟩ : Addr).add 2) (.slice x63.2.2.1.a x63.2.2.1.len x63.2.2.1.cap) <|
 ldA (.cons .sl (.cons .sl (.cons .sl .nil))) (⟨b0, 0, none⟩ : Addr) fun x64 =>
 K ((⟨x64.1.a, x64.1.len, x64.1.cap⟩, ⟨x64.2.1.a, x64.2.1.len, x64.2.1.cap⟩, ⟨x64.2.2.1.a, x64.2.2.1.len, x64.2.2.1.cap⟩, ()), (2 : Int), true, ())))
 ((0 : Int), false, (0 : Int), ())
theorem find_e0 (hc : rightC c = true) (hE : rightE l = true) (hl : l.length ≤ 65536) : (findP c (clsE l)).2.2 = 0 := by
  rw [find_eq hc (cls_right hE) (by simpa [clsE] using hl)]
  split
  · rfl
  · split <;> rfl
abbrev stpR (b : Nat) (x y z : Sl) : Asn := cl b ty_salvorref09_Step [.slice x.a x.len x.cap, .slice y.a y.len y.cap, .slice z.a z.len z.cap]
abbrev TSr : Type := ((Sl × (Sl × (Sl × Unit))) × (Int × (Bool × Unit)))
theorem outS {K : TSr → HP} {kd : Int} {ok : Bool} (x y z : Sl) (k : Nat) (st : Hs fr G As h) (hk : As[k]? = some (cl b0 ty_salvorref09_Step [v1, v2, v3]))
    (hK : ∀ h', Hs fr G (As.set k (stpR b0 x y z)) h' → K ((x, y, z, ()), kd, ok, ()) h') :
    (st1 (⟨b0, 0, none⟩ : Addr) (.slice x.a x.len x.cap) <| st1 ((⟨b0, 0, none⟩ : Addr).add 1) (.slice y.a y.len y.cap) <| st1 ((⟨b0, 0, none⟩ : Addr).add 2) (.slice z.a z.len z.cap) <|
      ldA (.cons .sl (.cons .sl (.cons .sl .nil))) (⟨b0, 0, none⟩ : Addr) fun x9 =>
      K ((⟨x9.1.a, x9.1.len, x9.1.cap⟩, ⟨x9.2.1.a, x9.2.1.len, x9.2.1.cap⟩, ⟨x9.2.2.1.a, x9.2.2.1.len, x9.2.2.1.cap⟩, ()), kd, ok, ())) h := by
  have hlt : k < As.length := (List.getElem?_eq_some_iff.1 hk).1
  simp only [addr_add, Nat.zero_add]
  refine st.st1 k 0 hk (by simp) fun h1 st => ?_
  refine st.st1 k 1 (by simp [hlt]; rfl) (by simp) fun h2 st => ?_
  refine st.st1 k 2 (by simp [hlt]; rfl) (by simp) fun h3 st => ?_
  simp only [List.set_set, List.set_cons_zero, List.set_cons_succ] at st
  refine ldRow (τ := .cons .sl (.cons .sl (.cons .sl .nil))) (x := (x, y, z, ())) (st.blk k (by simp [hlt]; rfl)) ?_
  exact hK _ st
def SrOk (l : List Ent) (c : List Int) (n : Nat) (sc : Sl) (r : TSr) (h' : Heap) : Prop :=
  ∃ sL sH sG, r = ((sL, sH, sG, ()), (searchP l c).2.1, (searchP l c).2.2.1, ()) ∧ (((searchP l c).1.lits = c ∧ sL = sc) ∨ New n h' (li (searchP l c).1.lits sL)) ∧ New n h' (nio' (searchP l c).1.hints sH) ∧ New n h' (ent (searchP l c).1.groups sG)
theorem SrOk.nil0 {n : Nat} {h' : Heap} {e : Int} (hS : searchP l c = (⟨[], [], []⟩, 0, false, e)) : SrOk l c n sc ((⟨none, 0, 0⟩, ⟨none, 0, 0⟩, ⟨none, 0, 0⟩, ()), 0, false, ()) h' := by
  refine ⟨⟨none, 0, 0⟩, ⟨none, 0, 0⟩, ⟨none, 0, 0⟩, by rw [hS], .inr ?_, ?_, ?_⟩
  · rw [hS]; exact New.rsl (osl_nil (t := 0) _ _)
  · rw [hS]; exact osl_nil _ _
  · rw [hS]; exact rsp_nil _ _ _
set_option maxRecDepth 100000 in
set_option maxHeartbeats 2000000 in
theorem srTl_c {K : TSr → HP} {r ids1 A1 : List Int} {hd : List Sl} {s11 sI al sA : Sl} {v0 : Value} (hE : rightE l = true) (hr : rightC (p :: r) = true) (hll : l.length ≤ 1000) (hlx : ∀ x ∈ l, x.2.length ≤ 1000) (hAl : A1.length ≤ 3000) (hoA : okA A1 = true)
    (hf : fuelE l ≤ 500000)
    (g0 : G[0]? = some (ent l s)) (g1 : G[1]? = some (li (p :: r) sc)) (hal : ∀ {fr : Fr} {As : List Asn} {G' : List Asn} {h' : Heap}, (∀ A ∈ G, A ∈ G') → Hs fr G' As h' → At h' (lli (clsE l) al))
    (sN : groupsGo l p A1 (l.filter (isCand p)) = none → searchP l (p :: r) = (⟨[], [], []⟩, 0, false, 0)) (sS : ∀ gs, groupsGo l p A1 (l.filter (isCand p)) = some gs → searchP l (p :: r) = (⟨p :: r, ids1, gs⟩, 2, true, 0))
    (st : Hs [([], h0)] G [stpR b12 sc sI ⟨none, 0, 0⟩, nio' A1 sA, nio' ids1 sI, cl b0 ty_salvorref09_Step [v1, v2, v3]] h)
    (hK : ∀ x h', SrOk l (p :: r) h0.size sc x h' ∧ Ext [] h0 h' → K x h') : SrTl s sc b0 b12 al K sA h := by
  unfold SrTl
  have hp : rt p = true := rightC_rt hr p (by simp)
  refine rdE (τ := i64) (i := 0) (st.fz 1 g1) (by simp) ?_
  simp only [List.getElem_cons_zero]
  have st := (Hs.fresh (h0 := h0) st (by simp) 2 rfl)
  simp only [List.set_cons_zero, List.set_cons_succ] at st
  have st := st.freeze 2 rfl
  simp only [List.eraseIdx_cons_succ, List.eraseIdx_cons_zero] at st
  have st := st.froz 1 rfl
  simp only [List.eraseIdx_cons_succ, List.eraseIdx_cons_zero] at st
  refine call_of (r9_Candidates_c (st.fzm (List.mem_append_left _ (List.mem_append_left _ (List.mem_of_getElem? g0)))) hE hp) ?_
  rintro r33 h2 ⟨n2, x2⟩
  have st := (st.new x2 n2).froz 2 rfl
  simp only [List.cons_append, List.nil_append, List.eraseIdx_cons_succ, List.eraseIdx_cons_zero] at st
  let G3 : List Asn := ent l s :: li (p :: r) sc :: li A1 sA :: li (candIDs l p) r33 :: newA h0.size (nio' ids1 sI) :: G
  have hG3 : ∀ A ∈ G, A ∈ G3 := fun A hA => by simp only [G3, List.mem_cons]; exact .inr (.inr (.inr (.inr (.inr hA))))
  have st : Hs [([], h0)] G3 _ h2 := st.less (G' := G3) (by
    intro A hA
    simp only [G3, List.mem_cons] at hA
    simp only [List.mem_append, List.mem_singleton]
    rcases hA with h | h | h | h | h | h
    · exact .inl (.inl (.inl (by rw [h]; exact List.mem_of_getElem? g0)))
    · exact .inl (.inl (.inl (by rw [h]; exact List.mem_of_getElem? g1)))
    · exact .inl (.inr h)
    · exact .inr h
    · exact .inl (.inl (.inr h))
    · exact .inl (.inl (.inl h)))
  have st := st.niln ty_salvorref09_Group 2 tPr.vals none
  have st := st.new (A := inn (fun c p => nio' c p) ([] : List (List Int)) []) (Ext.refl' _ _) ⟨[], rfl, by simp⟩
  simp only [List.cons_append, List.nil_append] at st
  obtain ⟨cd, hcd⟩ : ∃ cd, cd = l.filter (isCand p) := ⟨_, rfl⟩
  have hids : candIDs l p = cd.map (·.1) := by rw [hcd]; rfl
  have hcl : cd.length ≤ l.length := by rw [hcd]; exact List.length_filter_le _ _
  rw [← hcd] at sN sS
  have l33 : r33.len = cd.length := by have := rsl_len (st.fz 3 rfl); rw [this, hids, List.length_map]
  refine lfp_invh (I := fun m σ h' => ∃ (k : Nat) (u1 : Bool) (u2 : Int) (gs : List Grp) (gps : List tPr.T) (sG : Sl), σ = ((k : Int), u1, u2, ()) ∧ k ≤ cd.length ∧ groupsGo l p A1 (cd.take k) = some gs ∧ gps.map (·.1) = gs.map (·.1) ∧
      Hs [([], h0)] G3 [stpR b12 sc sI sG, cl b0 ty_salvorref09_Step [v1, v2, v3], osn ty_salvorref09_Group 2 tPr.vals gps sG, inn (fun c p => nio' c p) (gs.map (·.2)) (gps.map (·.2.1))] h' ∧ m = cd.length - k)
    ⟨_, 0, _, _, [], [], ⟨none, 0, 0⟩, rfl, by omega, rfl, rfl, st, rfl⟩ ?_
  clear st
  rintro m σ h3 X ⟨k, u1, u2, gs, gps, sG, rfl, hk, hg, hgi, st, rfl⟩ hX
  simp only
  by_cases hlt : k < cd.length
  rotate_left
  · refine brF (by rw [l33]; exact dlt_f hlt) ?_
    rw [List.take_of_length_le (by omega)] at hg
    have hS := sS gs hg
    refine ldRow (τ := .cons .sl (.cons .sl (.cons .sl .nil))) (x := (sc, sI, sG, ())) (st.blk 0 rfl) ?_
    refine outS sc sI sG 1 st rfl fun h4 st => hK _ _ ⟨⟨sc, sI, sG, by rw [hS], .inl ⟨by rw [hS], rfl⟩, ?_, ?_⟩, st.frame (by simp)⟩
    · rw [hS]; exact newA_new (st.fz 4 rfl)
    · rw [hS]; exact ent_new (st.res (by simp) 2 rfl) (st.res (by simp) 3 rfl) hgi
  refine brT (by rw [l33]; exact dlt_t hlt) ?_
  have hgpl : gps.length = gs.length := by simpa using congrArg List.length hgi
  have hgl : gs.length ≤ l.length := by
    have h1 := groupsGo_len hg
    rw [List.length_take] at h1; omega
  have hkc : k < (candIDs l p).length := by rw [hids, List.length_map]; exact hlt
  have ek : (candIDs l p)[k] = cd[k].1 := by simp only [hids, List.getElem_map]
  have hmem : ∀ x ∈ cd, x ∈ l ∧ isCand p x = true := fun x hx => by rw [hcd] at hx; exact List.mem_filter.1 hx
  obtain ⟨hjl, hjc⟩ := hmem _ (List.getElem_mem hlt)
  obtain ⟨j, hj, ej⟩ := List.mem_iff_getElem.1 hjl
  refine rdE (τ := i64) (st.fz 3 rfl) hkc ?_
  rw [ek]
  refine Hs.pr (s' := ⟨none, 0, 0⟩) st fun b38 h4 x4 st => ?_
  simp only [List.cons_append, List.nil_append] at st
  refine rdE (τ := i64) (st.fz 3 rfl) hkc ?_
  rw [ek]
  refine rdP (τ := i64) (i := 0) (st.fz 1 rfl) (by simp) fun a ea => ?_
  simp only [List.getElem_cons_zero]
  refine call_of (r9_find_c (st.fz 0 rfl) (by omega) _) ?_
  rintro _ h5 ⟨rfl, e⟩; subst e
  refine ckP (τ := i64) (st.fz 1 rfl) ea (i := 0) (by simp) ?_
  have efi : findI l cd[k].1 = (j : Int) := by unfold findI; rw [← ej, findE_at hE hj]
  rw [efi]
  refine rdPrs (st.fz 0 rfl) hj fun q hq => ?_
  have hrj := rightC_rt (rightE_lits hE _ (List.getElem_mem hj))
  have hlj := hlx _ (List.getElem_mem hj)
  refine call_of (r9_open_c hq (st.fz 2 rfl) hrj hp (by omega)) ?_
  rintro _ h6 ⟨s46, rfl, n46, x46⟩
  have st := st.new x46 n46
  simp only [List.cons_append, List.nil_append] at st
  have hsn := groupsGo_snoc (l := l) (p := p) (A := A1) (cd.take k) cd[k]
  have etk : cd.take (k + 1) = cd.take k ++ [cd[k]] := by simp
  rw [← etk, hg, ← ej] at hsn
  refine jn_in fun J hJ => ?_
  -- the group is put behind the others
  have put : ∀ (H : List Int) (sH : Sl) h', oneG l p A1 l[j] = some (l[j].1, H) → Hs [([], h0)] G3
      [stpR b12 sc sI sG, cl b0 ty_salvorref09_Step [v1, v2, v3], osn ty_salvorref09_Group 2 tPr.vals gps sG, inn (fun c p => nio' c p) (gs.map (·.2)) (gps.map (·.2.1)), prC b38 ty_salvorref09_Group l[j].1 sH, nio' H sH] h' → J (u1, u2, ()) h' := by
    intro H sH h' hone st
    rw [hone] at hsn
    refine hJ _ _ ?_
    simp only [addr_add, Nat.zero_add]
    rw [st.lds 0 2 rfl rfl]
    refine ldRow (τ := tPr) (x := (l[j].1, sH, ())) (st.blk 4 rfl) ?_
    refine st.nw fun b78 h18 st => ?_
    simp only [List.cons_append, List.nil_append] at st
    refine Hs.apdN (v := ((l[j].1, sH, ()) : tPr.T)) st widePr (by decide) 2 6 rfl rfl (by decide) (fun u hu => by
      have hu : u ∈ [Value.int .i64 l[j].1, .slice sH.a sH.len sH.cap] := hu
      simp only [List.mem_cons, List.not_mem_nil, or_false] at hu
      rcases hu with rfl | rfl <;> rfl) (by omega) (by decide) rfl fun s79 h19 st => ?_
    refine st.st1 0 2 rfl (by simp) fun h20 st => ?_
    simp only [List.set_cons_zero, List.set_cons_succ] at st
    have st := (st.drop 6 rfl).drop 4 rfl
    simp only [List.eraseIdx_cons_succ, List.eraseIdx_cons_zero] at st
    have st := st.move (A' := inn (fun c p => nio' c p) (gs.map (·.2) ++ [H]) (gps.map (·.2.1) ++ [sH])) 3 4 rfl rfl (by decide) fun S1 S2 h1 h2 hd => Inner.snoc h1 h2
    simp only [List.set_cons_zero, List.set_cons_succ] at st
    have st := st.drop 4 rfl
    simp only [List.eraseIdx_cons_succ, List.eraseIdx_cons_zero] at st
    rw [inc_i (by omega)]
    refine hX _ _ _ ⟨k + 1, u1, u2, gs ++ [(l[j].1, H)], gps ++ [(l[j].1, sH, ())], s79, rfl, by omega, ?_, ?_, ?_, rfl⟩ (by omega)
    · rw [hsn]; rfl
    · rw [List.map_append, List.map_append, hgi]; rfl
    · simp only [List.map_append, List.map_cons, List.map_nil]; exact st
  rw [← ej] at hjc st
  cases ho : (restP p A1 l[j].2).2 with
  | false =>
    refine brF rfl ?_
    have st := (st.drop 5 rfl).nil ty_int i64.enc none
    exact put [] ⟨none, 0, 0⟩ _ (by rw [oneG, if_pos ho]) st
  | true =>
  rw [ho, if_pos rfl] at st
  refine brT rfl ?_
  have hal' : alwaysC l[j].2 = false := by
    unfold isCand at hjc
    simp only [Bool.and_eq_true, Bool.not_eq_true'] at hjc
    exact hjc.2
  have hro := rest_ok (p := p) hoA hrj
  have hok := rest_okA hoA hrj hal' ho
  have efl : failsP p A1 l[j].2 = negR (A1 ++ (restP p A1 l[j].2).1) := rfl
  have hcc : (A1 ++ (restP p A1 l[j].2).1).length ≤ 4000 := by rw [List.length_append]; omega
  obtain ⟨hokr, _⟩ := okA_iff.1 hok
  have l46 := osl_len (st.own 5 rfl)
  have st := st.nil ty_int i64.enc none
  simp only [List.cons_append, List.nil_append] at st
  generalize (A1 ++ (restP p A1 l[j].2).1) = CC at *
  refine lfp_invh (I := fun m σ h' => ∃ (i : Nat) (sf : Sl), σ = ((i : Int), sf, ()) ∧ i ≤ CC.length ∧ Hs [([], h0)] G3
    [stpR b12 sc sI sG, cl b0 ty_salvorref09_Step [v1, v2, v3], osn ty_salvorref09_Group 2 tPr.vals gps sG, inn (fun c p => nio' c p) (gs.map (·.2)) (gps.map (·.2.1)), prC b38 ty_salvorref09_Group l[j].1 ⟨none, 0, 0⟩, nio' CC s46, nio' (negR (CC.take i)) sf] h' ∧ m = CC.length - i)
    ⟨_, 0, _, rfl, by omega, st, rfl⟩ ?_
  clear st
  rintro m σ h20 Y ⟨i, sf, rfl, hi, st, rfl⟩ hY
  simp only
  by_cases hlt2 : i < CC.length
  · refine brT (by rw [l46]; exact dlt_t hlt2) ?_
    refine rdE (τ := i64) (st.own 5 rfl).rsl hlt2 ?_
    rw [negW (hokr _ (List.getElem_mem hlt2))]
    refine st.nw fun b88 h22 st => ?_
    simp only [List.cons_append, List.nil_append] at st
    refine st.apd (v := -CC[i]) 6 7 rfl rfl (by decide) rfl (by simp only [List.length_map, List.length_take]; omega) (by decide) rfl fun s89 h23 st => ?_
    simp only [List.set_cons_zero, List.set_cons_succ] at st
    have st := st.drop 7 rfl
    rw [inc_i (by omega)]
    refine hY _ _ _ ⟨i + 1, s89, rfl, by omega, ?_, rfl⟩ (by omega)
    have et : CC.take (i + 1) = CC.take i ++ [CC[i]] := by simp
    rw [et]
    simp only [negR, List.map_append, List.map_cons, List.map_nil]
    exact st
  refine brF (by rw [l46]; exact dlt_f hlt2) ?_
  clear hY
  rw [List.take_of_length_le (by omega), ← efl] at st
  have lsf : sf.len = CC.length := by
    have := osl_len (st.own 6 rfl)
    rw [this, efl]; simp
  refine brF (by rw [lsf, decide_eq_false_iff_not]; show ¬ ((CC.length : Int) > 4096); omega) ?_
  have hfc : rightC (failsP p A1 l[j].2) = true := by
    rw [efl]
    unfold rightC
    rw [Bool.and_eq_true, decide_eq_true_eq, List.all_eq_true]
    refine ⟨by rw [List.length_map]; omega, fun x hx => ?_⟩
    obtain ⟨w, hw, rfl⟩ := List.mem_map.1 hx
    have := rt_iff.1 (hokr w hw)
    exact rt_iff.2 (by omega)
  refine call_of (r8_Find_c (st.own 6 rfl).rsl (hal hG3 st) hfc (cls_right hE) (by simp only [clsE, List.length_map]; omega) hf) ?_
  rintro _ h24 ⟨s60, rfl, n60, x60⟩
  have st := st.new x60 n60
  simp only [List.cons_append, List.nil_append] at st
  have he0 := find_e0 hfc hE (by omega)
  cases hfd : (findP (failsP p A1 l[j].2) (clsE l)).2.1 with
  | false =>
    refine brT rfl ?_
    have hone : oneG l p A1 l[j] = none := by rw [oneG, if_neg (by simp [ho]), if_pos (.inr hfd)]
    have hS := sN (by
      have e1 : cd = cd.take k ++ cd[k] :: cd.drop (k + 1) := by simp
      rw [e1]; exact groupsGo_stop _ _ _ (by rw [← ej]; exact hone))
    exact outS ⟨none, 0, 0⟩ ⟨none, 0, 0⟩ ⟨none, 0, 0⟩ 1 st rfl fun h25 st => hK _ _ ⟨SrOk.nil0 hS, st.frame (by simp)⟩
  | true =>
    refine brF rfl ?_
    obtain ⟨g1, g2⟩ := find_good hE (by omega) hfd
    refine call_of (r9_named_c (st.fz 0 rfl) (st.own 7 rfl) g1 (by omega)) ?_
    rintro r95 h25 ⟨n95, x95⟩
    have st := st.new x95 n95
    simp only [List.cons_append, List.nil_append, addr_add, Nat.zero_add] at st ⊢
    refine st.st1 4 1 rfl (by simp) fun h26 st => ?_
    simp only [List.set_cons_zero, List.set_cons_succ] at st
    have st := ((st.drop 7 rfl).drop 6 rfl).drop 5 rfl
    exact put (named l (findP (failsP p A1 l[j].2) (clsE l)).1) r95 _ (by rw [oneG, if_neg (by simp [ho]), if_neg (fun q => q.elim (fun q => q he0) (fun q => by rw [hfd] at q; cases q))]) st
end Go.Proofs.S
namespace Go.Proofs.S
open Go Go.Sx Go.Proofs Go.Cl Go.Rp Go.Rt
variable {h h0 : Heap} {c d A ids : List Int} {l : List Ent} {gs : List Grp} {s s2 s3 s4 s5 sc : Sl} {fr : Fr} {G As : List Asn} {id p : Int} {i b0 b12 : Nat} {x y z : Sl} {v1 v2 v3 : Value}
theorem fuelE_le {m : Nat} : ∀ {l : List Ent}, (∀ x ∈ l, x.2.length ≤ m) → fuelE l ≤ l.length * m + 1
  | [], _ => by simp [fuelE, fuelP, clsE]
  | y :: l, h => by
    have ih := fuelE_le (l := l) fun x hx => h x (by simp [hx])
    have h1 := h y (by simp)
    simp only [fuelE, fuelP, clsE, List.map_cons, List.flatten_cons, List.length_append, List.length_cons] at ih ⊢
    rw [Nat.succ_mul]; omega
set_option maxRecDepth 100000 in
set_option maxHeartbeats 2000000 in
theorem r9_Search_c (hA : At h (ent l s)) (hB : At h (li c sc)) (hE : rightE l = true) (hc : rightC c = true) (hll : l.length ≤ 1000) (hlx : ∀ x ∈ l, x.2.length ≤ 1000) (hcl : c.length ≤ 1000) (hf : fuelE l ≤ 1000) :
    callT Tryz.prog fn_salvorref09_Search #[.slice s.a s.len s.cap, .slice sc.a sc.len sc.cap] (.tup (.cons (.agg (.cons .sl (.cons .sl (.cons .sl .nil)))) (.cons (.int .i64) (.cons .bool .nil))))
      (fun r h' => SrOk l c h.size sc r h' ∧ Ext [] h h') h := by
  refine callT_gen fun K hK => S_salvorref09_Search (a0 := s) (a1 := sc) K ?_
  unfold F_salvorref09_Search
  obtain ⟨ps, lp, hps, hx⟩ := rsp_open hA
  obtain ⟨hd, hhd⟩ : ∃ hd : List Sl, hd = ps.map (fun q => q.2.1) := ⟨_, rfl⟩
  have lhd : hd.length = l.length := by rw [hhd]; simpa using lp
  have hcls : (clsE l).length = l.length := by simp [clsE]
  have hrow : ∀ i (h1 : i < (clsE l).length) (h2 : i < hd.length), At h (li (clsE l)[i] hd[i]) := fun i h1 h2 => by
    subst hhd
    simp only [clsE, List.getElem_map]
    exact (hx i (by omega) (by omega)).2
  have st : Hs [([], h)] (ent l s :: li c sc :: rsn 2 tPr.vals ps s :: rows (clsE l) hd) [] h := Hs.start h _ (by
    intro A hA'
    simp only [List.mem_cons] at hA'
    rcases hA' with rfl | rfl | rfl | hA'
    · exact hA
    · exact hB
    · exact hps
    · exact rows_at (by omega) hrow _ hA')
  have ls := rsp_len hA
  refine st.nw fun b0 h1 st => ?_
  have st := st.nil ty_sl_int Ty.sl.enc none
  simp only [List.cons_append, List.nil_append] at st
  obtain ⟨G1, eG1⟩ : ∃ G1, G1 = ent l s :: li c sc :: rsn 2 tPr.vals ps s :: rows (clsE l) hd := ⟨_, rfl⟩
  rw [← eG1] at st
  have gE : G1[0]? = some (ent l s) := by rw [eG1]; rfl
  have gC : G1[1]? = some (li c sc) := by rw [eG1]; rfl
  have gR : G1[2]? = some (rsn 2 tPr.vals ps s) := by rw [eG1]; rfl
  refine lfp_invh (I := fun m σ h' => ∃ (i : Nat) (sx : Sl), σ = ((i : Int), sx, ()) ∧ i ≤ l.length ∧
      Hs [([], h)] G1 [cl b0 ty_salvorref09_Step [.slice none 0 0, .slice none 0 0, .slice none 0 0], osl ty_sl_int Ty.sl.enc (hd.take i) sx] h' ∧ m = l.length - i)
    ⟨_, 0, ⟨none, 0, 0⟩, rfl, by omega, st, rfl⟩ ?_
  clear st
  rintro m σ h4 X ⟨i, al, rfl, hi, st, rfl⟩ hX
  simp only
  by_cases hlt : i < l.length
  · refine brT (by rw [ls]; exact dlt_t hlt) ?_
    refine rdNf (σ := .sl) (st.fz 2 gR) (show i < ps.length by omega) 1 (v := ps[i].2.1) rfl ?_
    have eh : ps[i].2.1 = hd[i]'(by omega) := by subst hhd; simp
    refine st.nw fun b21 h6 st => ?_
    simp only [List.cons_append, List.nil_append] at st
    refine st.apd (v := ps[i].2.1) 1 2 rfl rfl (by decide) rfl (by simp; omega) (by decide) rfl fun s22 h7 st => ?_
    simp only [List.set_cons_zero, List.set_cons_succ] at st
    have st := st.drop 2 rfl
    rw [inc_i (by omega)]
    refine hX _ _ _ ⟨i + 1, s22, rfl, by omega, ?_, rfl⟩ (by omega)
    have et : hd.take (i + 1) = hd.take i ++ [hd[i]'(by omega)] := by simp
    rw [et, ← eh]; exact st
  refine brF (by rw [ls]; exact dlt_f hlt) ?_
  clear hX
  rw [List.take_of_length_le (by omega)] at st
  have st := st.froz 1 rfl
  simp only [List.eraseIdx_cons_succ, List.eraseIdx_cons_zero] at st
  obtain ⟨G2, eG2⟩ : ∃ G2, G2 = G1 ++ [rsl Ty.sl.enc hd al] := ⟨_, rfl⟩
  have lG : 3 ≤ G1.length := by rw [eG1]; simp
  have hE2 : G2[0]? = some (ent l s) := by rw [eG2, List.getElem?_append_left (by omega)]; exact gE
  have hC2 : G2[1]? = some (li c sc) := by rw [eG2, List.getElem?_append_left (by omega)]; exact gC
  have st : Hs [([], h)] G2 [cl b0 ty_salvorref09_Step [.slice none 0 0, .slice none 0 0, .slice none 0 0]] h4 := by rw [eG2]; exact st
  have hG2h : rsl Ty.sl.enc hd al ∈ G2 := by rw [eG2]; simp
  have hG2r : ∀ i (h1 : i < (clsE l).length) (h2 : i < hd.length), li (clsE l)[i] hd[i] ∈ G2 := fun i h1 h2 => by
    rw [eG2, eG1]
    exact List.mem_append_left _ (List.mem_cons_of_mem _ (List.mem_cons_of_mem _ (List.mem_cons_of_mem _ (rows_mem h1 h2))))
  have all : ∀ {fr : Fr} {As : List Asn} {G' : List Asn} {h' : Heap}, (∀ A ∈ G2, A ∈ G') → Hs fr G' As h' → At h' (lli (clsE l) al) := fun hsub st => rsg_at (ps := hd) (by omega) (st.fzm (hsub _ hG2h)) fun i h1 h2 => st.fzm (hsub _ (hG2r i h1 h2))
  have hfl : fuelP (clsE l) ≤ 500000 := by have : fuelP (clsE l) = fuelE l := rfl; omega
  refine call_of (r8_Find_c (st.fz 1 hC2) (all (fun _ h => h) st) hc (cls_right hE) (by omega) hfl) ?_
  rintro _ h5 ⟨s25, rfl, n25, x25⟩
  have st := st.new x25 n25
  simp only [List.cons_append, List.nil_append] at st
  have h0 := find_e0 hc hE (by omega)
  have h20 : ¬ (findP c (clsE l)).2.2 = 20 := by rw [h0]; decide
  by_cases hfo : (findP c (clsE l)).2.1 = true
  · have hS := searchF hE h20 hfo
    obtain ⟨g1, g2⟩ := find_good hE (by omega) hfo
    refine brT hfo ?_
    refine call_of (r9_named_c (st.fz 0 hE2) (st.own 1 rfl) g1 (by omega)) ?_
    rintro s33 h7 ⟨n33, x33⟩
    have st := st.new x33 n33
    simp only [List.cons_append, List.nil_append] at st
    refine outS sc s33 ⟨none, 0, 0⟩ 0 st rfl fun h8 st => hK _ _ ⟨⟨sc, s33, ⟨none, 0, 0⟩, by rw [hS], .inl ⟨by rw [hS], rfl⟩, ?_, ?_⟩, st.frame (by simp)⟩
    · rw [hS]; exact st.res (by simp) 2 rfl
    · rw [hS]; exact rsp_nil _ _ _
  refine brF (by simpa using hfo) ?_
  have st := st.drop 1 rfl
  simp only [List.eraseIdx_cons_succ, List.eraseIdx_cons_zero] at st
  have lc := rsl_len (st.fz 1 hC2)
  have stF := st
  cases c with
  | nil =>
    refine brT (by rw [lc]; rfl) ?_
    exact outS ⟨none, 0, 0⟩ ⟨none, 0, 0⟩ ⟨none, 0, 0⟩ 0 stF rfl fun h8 st => hK _ _ ⟨SrOk.nil0 (searchN hE h20 hfo (.inl rfl)), st.frame (by simp)⟩
  | cons p r =>
  refine brF (by rw [lc, List.length_cons, beq_eq_false_iff_ne]; omega) ?_
  obtain ⟨sN, sS⟩ := searchG hE h20 hfo h0
  have ha : alwaysC (p :: r) = false := by
    cases ha : alwaysC (p :: r) with
    | false => rfl
    | true => exact absurd (show (findP (p :: r) (clsE l)).2.1 = true by rw [find_eq hc (cls_right hE) (by omega), ha]; rfl) hfo
  have eS : assumeP (p :: r) = (negs (p :: r), false, 0) := by unfold assumeP; rw [hc, ha]; rfl
  have hno := okA_negs hc ha
  have hnl : (negs (p :: r)).length ≤ 1000 := by
    unfold negs; rw [List.length_map]; have := nrm_length (p :: r); omega
  have st := stF
  refine call_of (r8_assume_c (st.fz 1 hC2) hc) ?_
  rw [eS]
  rintro _ h6 ⟨s46, rfl, n46, x46⟩
  have st := st.new x46 n46
  refine st.nw fun b12 h7 st => ?_
  simp only [List.cons_append, List.nil_append, addr_add, Nat.zero_add] at st ⊢
  refine st.st1 2 0 rfl (by simp) fun h8 st => ?_
  refine st.st1 2 1 rfl (by simp) fun h8 st => ?_
  refine st.st1 2 2 rfl (by simp) fun h8 st => ?_
  simp only [List.set_cons_zero, List.set_cons_succ] at st
  have st := (((st.nil ty_int i64.enc none).hd 3 rfl).hd 2 rfl).hd 3 rfl
  simp only [List.cons_append, List.nil_append, List.eraseIdx_cons_succ, List.eraseIdx_cons_zero] at st
  have hAl := (propGo_len (l := l) (fuelE l) (negs (p :: r)) []).1
  obtain ⟨hoA, _⟩ := propGo_ok (l := l) (fun x hx => rightC_rt (rightE_lits hE x hx)) (fuelE l) (ids := []) hno
  show PrW s b12 (SrTl s sc b0 b12 al K) s46 _
  refine prW_c (l := l) (c := negs (p :: r)) hE hE2 hno (by omega) (by omega) st fun sA sI h9 st => ?_
  exact srTl_c (hd := hd) (v1 := _) (s11 := s46) (v0 := .slice none 0 0) hE hc hll hlx (by omega) hoA (by omega) hE2 hC2 all sN sS st hK
end Go.Proofs.S
namespace Go.Proofs.S
open Go Go.Sx Go.Proofs Go.Cl Go.Rp Go.Rt
variable {h h0 : Heap} {c d A ids : List Int} {l : List Ent} {gs : List Grp} {s s2 s3 s4 s5 sc : Sl} {fr : Fr} {G As : List Asn} {id p : Int} {i b0 b12 : Nat} {x y z : Sl} {v1 v2 v3 : Value}
theorem search_form : (searchP l c).1.groups.length ≤ l.length ∧ ((searchP l c).1.lits = c ∨ (searchP l c).1.lits = []) ∧ 0 ≤ (searchP l c).2.1 ∧ (searchP l c).2.1 ≤ 2 := by
  have bad : ∀ e, let R : Stp × Int × Bool × Int := (⟨[], [], []⟩, 0, false, e); R.1.groups.length ≤ l.length ∧ (R.1.lits = c ∨ R.1.lits = []) ∧ 0 ≤ R.2.1 ∧ R.2.1 ≤ 2 := fun e => ⟨by simp, .inr rfl, (show (0 : Int) ≤ 0 by decide), (show (0 : Int) ≤ 2 by decide)⟩
  unfold searchP
  split
  · exact bad _
  split
  · exact bad _
  split
  · exact ⟨by simp, .inl rfl, (show (0 : Int) ≤ 1 by decide), (show (1 : Int) ≤ 2 by decide)⟩
  cases c with
  | nil => exact bad _
  | cons p r =>
    simp only
    split
    · exact bad _
    cases hg : groupsGo l p (propGo l (fuelE l) (negs (p :: r)) []).1 (l.filter (isCand p)) with
    | none => exact bad _
    | some gs =>
      have h2 := groupsGo_len hg
      have h3 : (l.filter (isCand p)).length ≤ l.length := List.length_filter_le _ _
      exact ⟨by simp only; omega, .inl rfl, (show (0 : Int) ≤ 2 by decide), (show (2 : Int) ≤ 2 by decide)⟩
set_option maxRecDepth 20000 in
set_option maxHeartbeats 2000000 in
theorem searches_c (hA : At h (ent l s)) (hB : At h (li c sc)) (hll : l.length ≤ 1000) (hlx : ∀ x ∈ l, x.2.length ≤ 1000) (hcl : c.length ≤ 1000) (hf : fuelE l ≤ 1000) :
    callT Tryz.prog fn_salvorlaw09_searches #[.slice s.a s.len s.cap, .slice sc.a sc.len sc.cap] .bool (fun r h' => r = true ∧ Ext [] h h') h := by
  refine callT_gen fun K hK => S_salvorlaw09_searches (a0 := s) (a1 := sc) K ?_
  unfold F_salvorlaw09_searches
  have hll6 : ∀ x ∈ l, x.2.length ≤ 1048576 := fun x hx => by have := hlx x hx; omega
  have hll9 : ∀ x ∈ l, x.2.length ≤ 1099511627776 := fun x hx => by have := hlx x hx; omega
  have st := Hs.start h [ent l s, li c sc] (by simp [hA, hB])
  refine call_of (Theirs_c (st.fz 0 rfl) (by omega) hll6) ?_
  rintro r0 h1 ⟨n1, x1⟩
  have st := Hs.fzNew (Bs := [ent l r0]) st x1 (by intro B hB; simp only [List.mem_singleton] at hB; subst hB; exact n1)
  refine call_of (Ints_c (st.fz 1 rfl) (by omega)) ?_
  rintro r1 h2 ⟨n2, x2⟩
  have st := Hs.fzNew (Bs := [li c r1]) st x2 (by intro B hB; simp only [List.mem_singleton] at hB; subst hB; exact New.rsl n2)
  simp only [List.cons_append, List.nil_append] at st
  refine call_of (Search_c (st.fz 0 rfl) (st.fz 1 rfl) (by omega) (by omega) (by omega)) ?_
  rintro _ h3 ⟨sL, sH, sG, rfl, nL, nH, nG, x3⟩
  have stO := (st.new x3 nL).beside
  obtain ⟨sf1, sf2, sf3, sf4⟩ := search_form (l := l) (c := c)
  have lens := fun hE => search_lens (l := l) (c := c) hE (by omega) (by omega)
  have serr := fun hE => search_err (l := l) (c := c) hE (by omega)
  have so : ∀ sL' h', SrOk l c h.size sc sL' h' → SrOk l c h.size sc sL' h' := fun _ _ q => q
  have hbad : ∀ r, rightE l = false → searchP l c = r → r = (⟨[], [], []⟩, 0, false, 90) := fun r hE e => by rw [← e]; unfold searchP; rw [hE]; rfl
  have hbad2 : ∀ r, rightE l = true → rightC c = false → searchP l c = r → r = (⟨[], [], []⟩, 0, false, 20) := fun r hE hc e => by
    rw [← e]; exact search20 hE (by unfold findP; rw [hc]; simp)
  have ok2 := fun (r : TSr) (h' : Heap) (n : Nat) (q : SrOk l c n r1 r h') => q
  unfold SrOk at ok2
  have hR := r9_Search_c (l := l) (c := c) (s := r0) (sc := r1) (h := h3)
  have hSrc : ∀ {h' : Heap}, At h' (ent l r0) → At h' (li c r1) → rightE l = true → rightC c = true → callT Tryz.prog fn_salvorref09_Search #[.slice r0.a r0.len r0.cap, .slice r1.a r1.len r1.cap] (.tup (.cons (.agg (.cons .sl (.cons .sl (.cons .sl .nil)))) (.cons (.int .i64) (.cons .bool .nil))))
      (fun r h'' => (∃ tL tH tG, r = ((tL, tH, tG, ()), (searchP l c).2.1, (searchP l c).2.2.1, ()) ∧ (((searchP l c).1.lits = c ∧ tL = r1) ∨ New h'.size h'' (li (searchP l c).1.lits tL)) ∧ New h'.size h'' (nio' (searchP l c).1.hints tH) ∧ New h'.size h'' (ent (searchP l c).1.groups tG)) ∧ Ext [] h' h'') h' := fun a b e1 e2 => r9_Search_c a b e1 e2 hll hlx hcl hf
  clear hR ok2 so
  generalize hSP : searchP l c = R at *
  obtain ⟨⟨L, H, Gs⟩, kd, ok, er⟩ := R
  simp only at nL nH nG stO sf1 sf2 sf3 sf4 lens serr hSrc ⊢
  have hLl : L.length ≤ 1000 := by rcases sf2 with e | e <;> (rw [e]; first | exact hcl | decide)
  have st := Hs.start h3 [ent l s, li c sc, ent l r0, li c r1, li L sL, nio' H sH, ent Gs sG] (by
    intro B hB
    have q0 := (st.ext x3).fz 0 rfl
    have q1 := (st.ext x3).fz 1 rfl
    have q2 := (st.ext x3).fz 2 rfl
    have q3 := (st.ext x3).fz 3 rfl
    simp only [List.mem_cons, List.not_mem_nil, or_false] at hB
    rcases hB with rfl | rfl | rfl | rfl | rfl | rfl | rfl
    · exact q0
    · exact q1
    · exact q2
    · exact q3
    · exact nL.at.rsl
    · exact nH.at
    · exact nG.at)
  refine st.nw fun b3 h4 st => ?_
  simp only [List.nil_append, addr_add, Nat.zero_add] at st ⊢
  refine st.st1 0 0 rfl (by simp) fun h5 st => ?_
  refine st.st1 0 1 rfl (by simp) fun h5 st => ?_
  refine st.st1 0 2 rfl (by simp) fun h5 st => ?_
  simp only [List.set_cons_zero, List.set_cons_succ] at st
  have xh : Ext [] h h3 := (stO.2 [] h3 stO.1).frame (by simp)
  -- no step
  have cmp : ∀ {J : Bool → HP} {h'}, L = [] → H = [] → Gs = [] → Hs [([], h3)] [ent l s, li c sc, ent l r0, li c r1, li L sL, nio' H sH, ent Gs sG] [stpC b3 sL sH sG] h' → (∀ h'', Ext [] h3 h'' → J true h'') →
      (ldA (.cons .sl (.cons .sl (.cons .sl .nil))) (⟨b3, 0, none⟩ : Addr) fun x11 =>
       callT Tryz.prog fn_salvorlaw09_step #[(.agg #[(.slice x11.1.a x11.1.len x11.1.cap), (.slice x11.2.1.a x11.2.1.len x11.2.1.cap), (.slice x11.2.2.1.a x11.2.2.1.len x11.2.2.1.cap)])] (.agg (.cons .sl (.cons .sl (.cons .sl .nil)))) fun r12 =>
       callT Tryz.prog fn_salvorlaw09_sameStep #[(.agg #[(.slice r12.1.a r12.1.len r12.1.cap), (.slice r12.2.1.a r12.2.1.len r12.2.1.cap), (.slice r12.2.2.1.a r12.2.2.1.len r12.2.2.1.cap)]), (.agg #[(.slice none 0 0), (.slice none 0 0), (.slice none 0 0)])] .bool fun r13 =>
       J (r13)) h' := by
    intro J h' e1 e2 e3 st hJ
    subst e1; subst e2; subst e3
    refine ldRow (τ := .cons .sl (.cons .sl (.cons .sl .nil))) (x := (sL, sH, sG, ())) (st.blk 0 rfl) ?_
    refine call_of (step_c (st.fz 4 rfl) (st.fz 5 rfl).rsl (st.fz 6 rfl) (by decide) (by decide) (by decide) (by simp)) ?_
    rintro _ h6 ⟨u1, u2, u3, rfl, y1, y2, y3, x6⟩
    have st := st.ext x6
    refine call_of (sameStep_c (c2 := []) (ids2 := []) (gs2 := []) (sl2 := ⟨none, 0, 0⟩) (sh2 := ⟨none, 0, 0⟩) (sg2 := ⟨none, 0, 0⟩) y1.at.rsl y2.at.rsl y3.at nil_li nil_li (rsp_nil (I := fun c p => li c p) 0 none _).at (by decide) (by decide) (by decide) (by simp)) ?_
    rintro _ h7 ⟨rfl, x7⟩
    exact hJ _ ((st.ext x7).frame (by simp))
  refine call_of (r9_Right_c (st.fz 2 rfl) (by omega) hll9) ?_
  rintro _ h6 ⟨rfl, e⟩; subst e
  cases hE : rightE l with
  | false =>
    have := hbad _ hE rfl
    simp only [Prod.mk.injEq, Stp.mk.injEq] at this
    obtain ⟨⟨e1, e2, e3⟩, rfl, rfl, rfl⟩ := this
    refine brT rfl ?_
    refine jn_in fun J hJ => brT rfl (hJ _ _ ?_)
    refine jn_in fun J hJ => brT rfl (hJ _ _ ?_)
    refine jn_in fun J hJ => brT rfl ?_
    exact cmp e1 e2 e3 st fun h7 x7 => hJ _ _ (hK _ _ ⟨rfl, xh.nil_trans x7⟩)
  | true =>
  refine brF rfl ?_
  refine call_of (r2_right_c (st.fz 3 rfl) (by omega)) ?_
  rintro _ h7 ⟨rfl, e⟩; subst e
  cases hc : rightC c with
  | false =>
    have := hbad2 _ hE hc rfl
    simp only [Prod.mk.injEq, Stp.mk.injEq] at this
    obtain ⟨⟨e1, e2, e3⟩, rfl, rfl, rfl⟩ := this
    refine brT rfl ?_
    refine jn_in fun J hJ => brT rfl (hJ _ _ ?_)
    refine jn_in fun J hJ => brT rfl (hJ _ _ ?_)
    refine jn_in fun J hJ => brT rfl ?_
    exact cmp e1 e2 e3 st fun h7 x7 => hJ _ _ (hK _ _ ⟨rfl, xh.nil_trans x7⟩)
  | true =>
  refine brF rfl ?_
  clear cmp
  have e0 := serr hE hc
  subst e0
  obtain ⟨l1, l2, l3⟩ := lens hE
  have l36 : ∀ g ∈ Gs, g.2.length ≤ 1000000 := fun g hg => by have := l3 g hg; omega
  have l39 : ∀ g ∈ Gs, g.2.length ≤ 1099511627776 := fun g hg => by have := l3 g hg; omega
  refine call_of (hSrc (st.fz 2 rfl) (st.fz 3 rfl) hE hc) ?_
  rintro _ h8 ⟨⟨tL, tH, tG, rfl, mL, mH, mG⟩, x8⟩
  have st : Hs [([], h3)] ([ent l s, li c sc, ent l r0, li c r1, li L sL, nio' H sH, ent Gs sG] ++ [nio' H tH, ent Gs tG] ++ [li L tL]) [stpC b3 sL sH sG] h8 := by
    rcases mL with ⟨e1, e2⟩ | mL
    · have st := st.fzNew (Bs := [nio' H tH, ent Gs tG]) x8 (by
        intro B hB
        simp only [List.mem_cons, List.not_mem_nil, or_false] at hB
        rcases hB with rfl | rfl
        · exact mH
        · exact mG)
      subst e2
      have := st.gainM (A := li c tL) (List.mem_append_left _ (by simp))
      rw [e1]; rw [e1] at this; exact this
    · have st := st.fzNew (Bs := [nio' H tH, ent Gs tG, li L tL]) x8 (by
        intro B hB
        simp only [List.mem_cons, List.not_mem_nil, or_false] at hB
        rcases hB with rfl | rfl | rfl
        · exact mH
        · exact mG
        · exact mL)
      exact st
  simp only [List.cons_append, List.nil_append] at st
  refine st.nw fun b25 h9 st => ?_
  simp only [List.cons_append, List.nil_append, addr_add, Nat.zero_add] at st ⊢
  refine st.st1 1 0 rfl (by simp) fun h10 st => ?_
  refine st.st1 1 1 rfl (by simp) fun h10 st => ?_
  refine st.st1 1 2 rfl (by simp) fun h10 st => ?_
  simp only [List.set_cons_zero, List.set_cons_succ] at st
  refine ldRow (τ := .cons .sl (.cons .sl (.cons .sl .nil))) (x := (sL, sH, sG, ())) (st.blk 0 rfl) ?_
  refine ldRow (τ := .cons .sl (.cons .sl (.cons .sl .nil))) (x := (tL, tH, tG, ())) (st.blk 1 rfl) ?_
  refine call_of (step_c (st.fz 4 rfl) (st.fz 5 rfl).rsl (st.fz 6 rfl) (by omega) (by omega) (by omega) l36) ?_
  rintro _ h11 ⟨u1, u2, u3, rfl, y1, y2, y3, x11⟩
  have st := st.ext x11
  refine ckRow (st.blk 1 rfl) ?_
  refine call_of (sameStep_c y1.at.rsl y2.at.rsl y3.at (st.fz 9 rfl) (st.fz 7 rfl).rsl (st.fz 8 rfl) (by omega) (by omega) (by omega) l39) ?_
  rintro _ h12 ⟨rfl, x12⟩
  have st := st.ext x12
  refine brF (by simp) ?_
  have ekd : IntKind.wrap .i64 kd = kd := wrap_i64 (by omega) (by omega)
  refine brF (by rw [ekd]; simp) ?_
  refine brF (by simp) ?_
  refine brF (by simp) ?_
  -- what is handed over is written into
  have st := stO.2 _ _ (((st.drop 1 rfl).less (G' := [ent l s, li c sc, ent l r0, li c r1]) (by
    intro B hB
    simp only [List.mem_cons, List.not_mem_nil, or_false] at hB ⊢
    rcases hB with rfl | rfl | rfl | rfl
    · exact .inl rfl
    · exact .inr (.inl rfl)
    · exact .inr (.inr (.inl rfl))
    · exact .inr (.inr (.inr (.inl rfl))))))
  simp only [List.cons_append, List.nil_append, List.eraseIdx_cons_succ, List.eraseIdx_cons_zero] at st
  rw [st.lds 1 0 rfl rfl]
  have lL : sL.len = L.length := osl_len (st.own 0 rfl)
  refine lfp_invh (I := fun m σ h' => ∃ (i : Nat) (L2 : List Int), σ = ((i : Int), ()) ∧ i ≤ L.length ∧ L2.length = L.length ∧ Hs [([], h)] [ent l s, li c sc, ent l r0, li c r1] [lo L2 sL, stpC b3 sL sH sG] h' ∧ m = L.length - i)
    ⟨_, 0, L, rfl, by omega, rfl, st, rfl⟩ ?_
  clear st
  rintro m σ h14 Y ⟨i, L2, rfl, hi, hL2, st, rfl⟩ hY
  simp only
  by_cases hlt : i < L.length
  · refine brT (by rw [lL]; exact dlt_t hlt) ?_
    rw [st.lds 1 0 rfl rfl]
    refine st.wrE (τ := i64) 0 rfl (i := i) (by omega) 99 fun h15 st => ?_
    rw [inc_i (by omega)]
    exact hY _ _ _ ⟨i + 1, L2.set i 99, rfl, by omega, by simpa using hL2, st, rfl⟩ (by omega)
  refine brF (by rw [lL]; exact dlt_f hlt) ?_
  refine call_of (Ints_c (st.fz 1 rfl) (by omega)) ?_
  rintro r35 h15 ⟨n35, x15⟩
  have st := st.ext x15
  refine call_of (equal_int n35.at.rsl (st.fz 3 rfl) (by omega)) ?_
  rintro _ h16 ⟨rfl, e⟩; subst e
  refine jn_in fun J hJ => brT (by simp) ?_
  refine call_of (Theirs_c (st.fz 0 rfl) (by omega) hll6) ?_
  rintro r39 h17 ⟨n39, x17⟩
  have st := st.ext x17
  refine call_of (sameEntries_c n39.at (st.fz 2 rfl) (by omega) hll9) ?_
  rintro _ h18 ⟨rfl, x18⟩
  have st := st.ext x18
  exact hJ _ _ (hK _ _ ⟨by simp, st.frame (by simp)⟩)
end Go.Proofs.S
