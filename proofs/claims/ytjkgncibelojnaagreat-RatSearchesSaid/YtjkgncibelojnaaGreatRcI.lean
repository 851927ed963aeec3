/-
  The reference of rat: Search.
-/
import Derived.Test.YtjkgncibelojnaaGreatRuX
set_option linter.unusedVariables false
set_option linter.unusedSimpArgs false
namespace Go.Proofs.S
open Go Go.Sx Go.Proofs Go.Cl Go.Rp Go.Rt

variable {h h0 : Heap} {c d A ids : List Int} {l : List Ent} {gs : List Grp} {s s2 s3 s4 s5 sc : Sl} {fr : Fr} {G As : List Asn} {id p : Int} {i b0 b12 : Nat} {x y z : Sl} {v1 v2 v3 : Value}

def SrTl (a0 a1 : Sl) (b0 b12 : Nat) (al : Sl) (K : ((Sl × (Sl × (Sl × Unit))) × (Int × (Bool × Unit))) → HP) (A0 : Sl) : HP :=
 sx a1.a a1.len (0 : Int) 1 fun p31 =>
 ldT (.int .i64) p31 fun x32 =>
 callT Tryz.prog fn_salvorref09_Candidates #[(.slice a0.a a0.len a0.cap), (.int .i64 x32)] .sl fun r33 =>
 lfp (σ := (Int × (Bool × (Int × Unit)))) (fun X34 s35 => 
 brB (decide (s35.1 < (r33.len : Int)))
 (sx r33.a r33.len s35.1 1 fun p36 =>
 ldT (.int .i64) p36 fun x37 =>
 nw #[(.int .i64 (0 : Int)), (.slice none 0 0)] ty_salvorref09_Group fun b38 =>
 st1 (⟨b38, 0, none⟩ : Addr) (.int .i64 x37) <|
 st1 ((⟨b38, 0, none⟩ : Addr).add 1) (.slice none 0 0) <|
 sx r33.a r33.len s35.1 1 fun p39 =>
 ldT (.int .i64) p39 fun x40 =>
 sx a1.a a1.len (0 : Int) 1 fun p41 =>
 ldT (.int .i64) p41 fun x42 =>
 callT Tryz.prog fn_salvorref09_find #[(.slice a0.a a0.len a0.cap), (.int .i64 x40)] (.int .i64) fun r43 =>
 ck p41 (.int .i64 x42) <|
 sx a0.a a0.len r43 2 fun p44 =>
 ldT .sl (p44.add 1) fun x45 =>
 callT Tryz.prog fn_salvorref09_open #[(.slice x45.a x45.len x45.cap), (.int .i64 x42), (.slice A0.a A0.len A0.cap)] (.tup (.cons .sl (.cons .bool .nil))) fun r46 =>
 jn (σ := (Bool × (Int × Unit))) (fun s48 => 
 ldT .sl ((⟨b12, 0, none⟩ : Addr).add 2) fun x49 =>
 ldA (.cons (.int .i64) (.cons .sl .nil)) (⟨b38, 0, none⟩ : Addr) fun x50 =>
 nw #[(.int .i64 x50.1), (.slice x50.2.1.a x50.2.1.len x50.2.1.cap)] ty_salvorref09_Group fun b51 =>
 apd ty_salvorref09_Group 2 32 #[(.int .i64 (0 : Int)), (.slice none 0 0)] ⟨x49.a, x49.len, x49.cap⟩ ⟨(some (⟨b51, 0, none⟩ : Addr)), 1, 1⟩ fun s52 =>
 st1 ((⟨b12, 0, none⟩ : Addr).add 2) (.slice s52.a s52.len s52.cap) <|
 X34 ((IntKind.wrap .i64 (s35.1 + (1 : Int))), s48.1, s48.2.1, ()))
 (fun J47 =>
 brB r46.2.1
 (lfp (σ := (Int × (Sl × Unit))) (fun X53 s54 => 
 brB (decide (s54.1 < (r46.1.len : Int)))
 (sx r46.1.a r46.1.len s54.1 1 fun p55 =>
 ldT (.int .i64) p55 fun x56 =>
 nw #[(.int .i64 (IntKind.wrap .i64 (0 - x56)))] ty_int fun b57 =>
 apd ty_int 1 8 #[(.int .i64 (0 : Int))] ⟨s54.2.1.a, s54.2.1.len, s54.2.1.cap⟩ ⟨(some (⟨b57, 0, none⟩ : Addr)), 1, 1⟩ fun s58 =>
 X53 ((IntKind.wrap .i64 (s54.1 + (1 : Int))), ⟨s58.a, s58.len, s58.cap⟩, ()))
 (brB (decide ((s54.2.1.len : Int) > (4096 : Int)))
 (st1 (⟨b0, 0, none⟩ : Addr) (.slice none 0 0) <|
 st1 ((⟨b0, 0, none⟩ : Addr).add 1) (.slice none 0 0) <|
 st1 ((⟨b0, 0, none⟩ : Addr).add 2) (.slice none 0 0) <|
 ldA (.cons .sl (.cons .sl (.cons .sl .nil))) (⟨b0, 0, none⟩ : Addr) fun x59 =>
 K ((⟨x59.1.a, x59.1.len, x59.1.cap⟩, ⟨x59.2.1.a, x59.2.1.len, x59.2.1.cap⟩, ⟨x59.2.2.1.a, x59.2.2.1.len, x59.2.2.1.cap⟩, ()), (0 : Int), false, ()))
 (callT Tryz.prog fn_salvorref08_Find #[(.slice s54.2.1.a s54.2.1.len s54.2.1.cap), (.slice al.a al.len al.cap)] (.tup (.cons .sl (.cons .bool .nil))) fun r60 =>
 brB (!r60.2.1)
 (st1 (⟨b0, 0, none⟩ : Addr) (.slice none 0 0) <|
 st1 ((⟨b0, 0, none⟩ : Addr).add 1) (.slice none 0 0) <|
 st1 ((⟨b0, 0, none⟩ : Addr).add 2) (.slice none 0 0) <|
 ldA (.cons .sl (.cons .sl (.cons .sl .nil))) (⟨b0, 0, none⟩ : Addr) fun x61 =>
 K ((⟨x61.1.a, x61.1.len, x61.1.cap⟩, ⟨x61.2.1.a, x61.2.1.len, x61.2.1.cap⟩, ⟨x61.2.2.1.a, x61.2.2.1.len, x61.2.2.1.cap⟩, ()), (0 : Int), false, ()))
 (callT Tryz.prog fn_salvorref09_named #[(.slice a0.a a0.len a0.cap), (.slice r60.1.a r60.1.len r60.1.cap)] .sl fun r62 =>
 st1 ((⟨b38, 0, none⟩ : Addr).add 1) (.slice r62.a r62.len r62.cap) <|
 J47 (s35.2.1, s35.2.2.1, ())))))
 ((0 : Int), ⟨none, 0, 0⟩, ()))
 (J47 (s35.2.1, s35.2.2.1, ()))))
 (ldA (.cons .sl (.cons .sl (.cons .sl .nil))) (⟨b12, 0, none⟩ : Addr) fun x63 =>
 st1 (⟨b0, 0, none⟩ : Addr) (.slice x63.1.a x63.1.len x63.1.cap) <|
 st1 ((⟨b0, 0, none⟩ : Addr).add 1) (.slice x63.2.1.a x63.2.1.len x63.2.1.cap) <|
 st1 ((⟨b0, 0, none⟩ : Addr).add 2) (.slice x63.2.2.1.a x63.2.2.1.len x63.2.2.1.cap) <|
 ldA (.cons .sl (.cons .sl (.cons .sl .nil))) (⟨b0, 0, none⟩ : Addr) fun x64 =>
 K ((⟨x64.1.a, x64.1.len, x64.1.cap⟩, ⟨x64.2.1.a, x64.2.1.len, x64.2.1.cap⟩, ⟨x64.2.2.1.a, x64.2.2.1.len, x64.2.2.1.cap⟩, ()), (2 : Int), true, ())))
 ((0 : Int), false, (0 : Int), ())

theorem find_e0 (hc : rightC c = true) (hE : rightE l = true) (hl : l.length ≤ 65536) : (findP c (clsE l)).2.2 = 0 := by
  rw [find_eq hc (cls_right hE) (by simpa [clsE] using hl)]
  split
  · rfl
  · split <;> rfl
abbrev stpR (b : Nat) (x y z : Sl) : Asn := cl b ty_salvorref09_Step [.slice x.a x.len x.cap, .slice y.a y.len y.cap, .slice z.a z.len z.cap]
abbrev TSr : Type := ((Sl × (Sl × (Sl × Unit))) × (Int × (Bool × Unit)))
theorem outS {K : TSr → HP} {kd : Int} {ok : Bool} (x y z : Sl) (k : Nat) (st : Hs fr G As h) (hk : As[k]? = some (cl b0 ty_salvorref09_Step [v1, v2, v3]))
    (hK : ∀ h', Hs fr G (As.set k (stpR b0 x y z)) h' → K ((x, y, z, ()), kd, ok, ()) h') :
    (st1 (⟨b0, 0, none⟩ : Addr) (.slice x.a x.len x.cap) <| st1 ((⟨b0, 0, none⟩ : Addr).add 1) (.slice y.a y.len y.cap) <| st1 ((⟨b0, 0, none⟩ : Addr).add 2) (.slice z.a z.len z.cap) <|
      ldA (.cons .sl (.cons .sl (.cons .sl .nil))) (⟨b0, 0, none⟩ : Addr) fun x9 =>
      K ((⟨x9.1.a, x9.1.len, x9.1.cap⟩, ⟨x9.2.1.a, x9.2.1.len, x9.2.1.cap⟩, ⟨x9.2.2.1.a, x9.2.2.1.len, x9.2.2.1.cap⟩, ()), kd, ok, ())) h := by
  have hlt : k < As.length := (List.getElem?_eq_some_iff.1 hk).1
  simp only [addr_add, Nat.zero_add]
  refine st.st1 k 0 hk (by simp) fun h1 st => ?_
  refine st.st1 k 1 (by simp [hlt]; rfl) (by simp) fun h2 st => ?_
  refine st.st1 k 2 (by simp [hlt]; rfl) (by simp) fun h3 st => ?_
  simp only [List.set_set, List.set_cons_zero, List.set_cons_succ] at st
  refine ldRow (τ := .cons .sl (.cons .sl (.cons .sl .nil))) (x := (x, y, z, ())) (st.blk k (by simp [hlt]; rfl)) ?_
  exact hK _ st

def SrOk (l : List Ent) (c : List Int) (n : Nat) (sc : Sl) (r : TSr) (h' : Heap) : Prop :=
  ∃ sL sH sG, r = ((sL, sH, sG, ()), (searchP l c).2.1, (searchP l c).2.2.1, ()) ∧ (((searchP l c).1.lits = c ∧ sL = sc) ∨ New n h' (li (searchP l c).1.lits sL)) ∧ New n h' (nio' (searchP l c).1.hints sH) ∧ New n h' (ent (searchP l c).1.groups sG)
theorem SrOk.nil0 {n : Nat} {h' : Heap} {e : Int} (hS : searchP l c = (⟨[], [], []⟩, 0, false, e)) : SrOk l c n sc ((⟨none, 0, 0⟩, ⟨none, 0, 0⟩, ⟨none, 0, 0⟩, ()), 0, false, ()) h' := by
  refine ⟨⟨none, 0, 0⟩, ⟨none, 0, 0⟩, ⟨none, 0, 0⟩, by rw [hS], .inr ?_, ?_, ?_⟩
  · rw [hS]; exact New.rsl (osl_nil (t := 0) _ _)
  · rw [hS]; exact osl_nil _ _
  · rw [hS]; exact rsp_nil _ _ _

set_option maxRecDepth 100000 in
set_option maxHeartbeats 2000000 in
theorem srTl_c {K : TSr → HP} {r ids1 A1 : List Int} {hd : List Sl} {s11 sI al sA : Sl} {v0 : Value} (hE : rightE l = true) (hr : rightC (p :: r) = true) (hll : l.length ≤ 1000) (hlx : ∀ x ∈ l, x.2.length ≤ 1000) (hAl : A1.length ≤ 3000) (hoA : okA A1 = true)
    (hf : fuelE l ≤ 500000)
    (g0 : G[0]? = some (ent l s)) (g1 : G[1]? = some (li (p :: r) sc)) (hal : ∀ {fr : Fr} {As : List Asn} {G' : List Asn} {h' : Heap}, (∀ A ∈ G, A ∈ G') → Hs fr G' As h' → At h' (lli (clsE l) al))
    (sN : groupsGo l p A1 (l.filter (isCand p)) = none → searchP l (p :: r) = (⟨[], [], []⟩, 0, false, 0)) (sS : ∀ gs, groupsGo l p A1 (l.filter (isCand p)) = some gs → searchP l (p :: r) = (⟨p :: r, ids1, gs⟩, 2, true, 0))
    (st : Hs [([], h0)] G [stpR b12 sc sI ⟨none, 0, 0⟩, nio' A1 sA, nio' ids1 sI, cl b0 ty_salvorref09_Step [v1, v2, v3]] h)
    (hK : ∀ x h', SrOk l (p :: r) h0.size sc x h' ∧ Ext [] h0 h' → K x h') : SrTl s sc b0 b12 al K sA h := by
  unfold SrTl
  have hp : rt p = true := rightC_rt hr p (by simp)
  refine rdE (τ := i64) (i := 0) (st.fz 1 g1) (by simp) ?_
  simp only [List.getElem_cons_zero]
  have st := (Hs.fresh (h0 := h0) st (by simp) 2 rfl)
  simp only [List.set_cons_zero, List.set_cons_succ] at st
  have st := st.freeze 2 rfl
  simp only [List.eraseIdx_cons_succ, List.eraseIdx_cons_zero] at st
  have st := st.froz 1 rfl
  simp only [List.eraseIdx_cons_succ, List.eraseIdx_cons_zero] at st
  refine call_of (r9_Candidates_c (st.fzm (List.mem_append_left _ (List.mem_append_left _ (List.mem_of_getElem? g0)))) hE hp) ?_
  rintro r33 h2 ⟨n2, x2⟩
  have st := (st.new x2 n2).froz 2 rfl
  simp only [List.cons_append, List.nil_append, List.eraseIdx_cons_succ, List.eraseIdx_cons_zero] at st
  let G3 : List Asn := ent l s :: li (p :: r) sc :: li A1 sA :: li (candIDs l p) r33 :: newA h0.size (nio' ids1 sI) :: G
  have hG3 : ∀ A ∈ G, A ∈ G3 := fun A hA => by simp only [G3, List.mem_cons]; exact .inr (.inr (.inr (.inr (.inr hA))))
  have st : Hs [([], h0)] G3 _ h2 := st.less (G' := G3) (by
    intro A hA
    simp only [G3, List.mem_cons] at hA
    simp only [List.mem_append, List.mem_singleton]
    rcases hA with h | h | h | h | h | h
    · exact .inl (.inl (.inl (by rw [h]; exact List.mem_of_getElem? g0)))
    · exact .inl (.inl (.inl (by rw [h]; exact List.mem_of_getElem? g1)))
    · exact .inl (.inr h)
    · exact .inr h
    · exact .inl (.inl (.inr h))
    · exact .inl (.inl (.inl h)))
  have st := st.niln ty_salvorref09_Group 2 tPr.vals none
  have st := st.new (A := inn (fun c p => nio' c p) ([] : List (List Int)) []) (Ext.refl' _ _) ⟨[], rfl, by simp⟩
  simp only [List.cons_append, List.nil_append] at st
  obtain ⟨cd, hcd⟩ : ∃ cd, cd = l.filter (isCand p) := ⟨_, rfl⟩
  have hids : candIDs l p = cd.map (·.1) := by rw [hcd]; rfl
  have hcl : cd.length ≤ l.length := by rw [hcd]; exact List.length_filter_le _ _
  rw [← hcd] at sN sS
  have l33 : r33.len = cd.length := by have := rsl_len (st.fz 3 rfl); rw [this, hids, List.length_map]
  refine lfp_invh (I := fun m σ h' => ∃ (k : Nat) (u1 : Bool) (u2 : Int) (gs : List Grp) (gps : List tPr.T) (sG : Sl), σ = ((k : Int), u1, u2, ()) ∧ k ≤ cd.length ∧ groupsGo l p A1 (cd.take k) = some gs ∧ gps.map (·.1) = gs.map (·.1) ∧
      Hs [([], h0)] G3 [stpR b12 sc sI sG, cl b0 ty_salvorref09_Step [v1, v2, v3], osn ty_salvorref09_Group 2 tPr.vals gps sG, inn (fun c p => nio' c p) (gs.map (·.2)) (gps.map (·.2.1))] h' ∧ m = cd.length - k)
    ⟨_, 0, _, _, [], [], ⟨none, 0, 0⟩, rfl, by omega, rfl, rfl, st, rfl⟩ ?_
  clear st
  rintro m σ h3 X ⟨k, u1, u2, gs, gps, sG, rfl, hk, hg, hgi, st, rfl⟩ hX
  simp only
  by_cases hlt : k < cd.length
  rotate_left
  · refine brF (by rw [l33]; exact dlt_f hlt) ?_
    rw [List.take_of_length_le (by omega)] at hg
    have hS := sS gs hg
    refine ldRow (τ := .cons .sl (.cons .sl (.cons .sl .nil))) (x := (sc, sI, sG, ())) (st.blk 0 rfl) ?_
    refine outS sc sI sG 1 st rfl fun h4 st => hK _ _ ⟨⟨sc, sI, sG, by rw [hS], .inl ⟨by rw [hS], rfl⟩, ?_, ?_⟩, st.frame (by simp)⟩
    · rw [hS]; exact newA_new (st.fz 4 rfl)
    · rw [hS]; exact ent_new (st.res (by simp) 2 rfl) (st.res (by simp) 3 rfl) hgi
  refine brT (by rw [l33]; exact dlt_t hlt) ?_
  have hgpl : gps.length = gs.length := by simpa using congrArg List.length hgi
  have hgl : gs.length ≤ l.length := by
    have h1 := groupsGo_len hg
    rw [List.length_take] at h1; omega
  have hkc : k < (candIDs l p).length := by rw [hids, List.length_map]; exact hlt
  have ek : (candIDs l p)[k] = cd[k].1 := by simp only [hids, List.getElem_map]
  have hmem : ∀ x ∈ cd, x ∈ l ∧ isCand p x = true := fun x hx => by rw [hcd] at hx; exact List.mem_filter.1 hx
  obtain ⟨hjl, hjc⟩ := hmem _ (List.getElem_mem hlt)
  obtain ⟨j, hj, ej⟩ := List.mem_iff_getElem.1 hjl
  refine rdE (τ := i64) (st.fz 3 rfl) hkc ?_
  rw [ek]
  refine Hs.pr (s' := ⟨none, 0, 0⟩) st fun b38 h4 x4 st => ?_
  simp only [List.cons_append, List.nil_append] at st
  refine rdE (τ := i64) (st.fz 3 rfl) hkc ?_
  rw [ek]
  refine rdP (τ := i64) (i := 0) (st.fz 1 rfl) (by simp) fun a ea => ?_
  simp only [List.getElem_cons_zero]
  refine call_of (r9_find_c (st.fz 0 rfl) (by omega) _) ?_
  rintro _ h5 ⟨rfl, e⟩; subst e
  refine ckP (τ := i64) (st.fz 1 rfl) ea (i := 0) (by simp) ?_
  have efi : findI l cd[k].1 = (j : Int) := by unfold findI; rw [← ej, findE_at hE hj]
  rw [efi]
  refine rdPrs (st.fz 0 rfl) hj fun q hq => ?_
  have hrj := rightC_rt (rightE_lits hE _ (List.getElem_mem hj))
  have hlj := hlx _ (List.getElem_mem hj)
  refine call_of (r9_open_c hq (st.fz 2 rfl) hrj hp (by omega)) ?_
  rintro _ h6 ⟨s46, rfl, n46, x46⟩
  have st := st.new x46 n46
  simp only [List.cons_append, List.nil_append] at st
  have hsn := groupsGo_snoc (l := l) (p := p) (A := A1) (cd.take k) cd[k]
  have etk : cd.take (k + 1) = cd.take k ++ [cd[k]] := by simp
  rw [← etk, hg, ← ej] at hsn
  refine jn_in fun J hJ => ?_
  -- the group is put behind the others
  have put : ∀ (H : List Int) (sH : Sl) h', oneG l p A1 l[j] = some (l[j].1, H) → Hs [([], h0)] G3
      [stpR b12 sc sI sG, cl b0 ty_salvorref09_Step [v1, v2, v3], osn ty_salvorref09_Group 2 tPr.vals gps sG, inn (fun c p => nio' c p) (gs.map (·.2)) (gps.map (·.2.1)), prC b38 ty_salvorref09_Group l[j].1 sH, nio' H sH] h' → J (u1, u2, ()) h' := by
    intro H sH h' hone st
    rw [hone] at hsn
    refine hJ _ _ ?_
    simp only [addr_add, Nat.zero_add]
    rw [st.lds 0 2 rfl rfl]
    refine ldRow (τ := tPr) (x := (l[j].1, sH, ())) (st.blk 4 rfl) ?_
    refine st.nw fun b78 h18 st => ?_
    simp only [List.cons_append, List.nil_append] at st
    refine Hs.apdN (v := ((l[j].1, sH, ()) : tPr.T)) st widePr (by decide) 2 6 rfl rfl (by decide) (fun u hu => by
      have hu : u ∈ [Value.int .i64 l[j].1, .slice sH.a sH.len sH.cap] := hu
      simp only [List.mem_cons, List.not_mem_nil, or_false] at hu
      rcases hu with rfl | rfl <;> rfl) (by omega) (by decide) rfl fun s79 h19 st => ?_
    refine st.st1 0 2 rfl (by simp) fun h20 st => ?_
    simp only [List.set_cons_zero, List.set_cons_succ] at st
    have st := (st.drop 6 rfl).drop 4 rfl
    simp only [List.eraseIdx_cons_succ, List.eraseIdx_cons_zero] at st
    have st := st.move (A' := inn (fun c p => nio' c p) (gs.map (·.2) ++ [H]) (gps.map (·.2.1) ++ [sH])) 3 4 rfl rfl (by decide) fun S1 S2 h1 h2 hd => Inner.snoc h1 h2
    simp only [List.set_cons_zero, List.set_cons_succ] at st
    have st := st.drop 4 rfl
    simp only [List.eraseIdx_cons_succ, List.eraseIdx_cons_zero] at st
    rw [inc_i (by omega)]
    refine hX _ _ _ ⟨k + 1, u1, u2, gs ++ [(l[j].1, H)], gps ++ [(l[j].1, sH, ())], s79, rfl, by omega, ?_, ?_, ?_, rfl⟩ (by omega)
    · rw [hsn]; rfl
    · rw [List.map_append, List.map_append, hgi]; rfl
    · simp only [List.map_append, List.map_cons, List.map_nil]; exact st
  rw [← ej] at hjc st
  cases ho : (restP p A1 l[j].2).2 with
  | false =>
    refine brF rfl ?_
    have st := (st.drop 5 rfl).nil ty_int i64.enc none
    exact put [] ⟨none, 0, 0⟩ _ (by rw [oneG, if_pos ho]) st
  | true =>
  rw [ho, if_pos rfl] at st
  refine brT rfl ?_
  have hal' : alwaysC l[j].2 = false := by
    unfold isCand at hjc
    simp only [Bool.and_eq_true, Bool.not_eq_true'] at hjc
    exact hjc.2
  have hro := rest_ok (p := p) hoA hrj
  have hok := rest_okA hoA hrj hal' ho
  have efl : failsP p A1 l[j].2 = negR (A1 ++ (restP p A1 l[j].2).1) := rfl
  have hcc : (A1 ++ (restP p A1 l[j].2).1).length ≤ 4000 := by rw [List.length_append]; omega
  obtain ⟨hokr, _⟩ := okA_iff.1 hok
  have l46 := osl_len (st.own 5 rfl)
  have st := st.nil ty_int i64.enc none
  simp only [List.cons_append, List.nil_append] at st
  generalize (A1 ++ (restP p A1 l[j].2).1) = CC at *
  refine lfp_invh (I := fun m σ h' => ∃ (i : Nat) (sf : Sl), σ = ((i : Int), sf, ()) ∧ i ≤ CC.length ∧ Hs [([], h0)] G3
    [stpR b12 sc sI sG, cl b0 ty_salvorref09_Step [v1, v2, v3], osn ty_salvorref09_Group 2 tPr.vals gps sG, inn (fun c p => nio' c p) (gs.map (·.2)) (gps.map (·.2.1)), prC b38 ty_salvorref09_Group l[j].1 ⟨none, 0, 0⟩, nio' CC s46, nio' (negR (CC.take i)) sf] h' ∧ m = CC.length - i)
    ⟨_, 0, _, rfl, by omega, st, rfl⟩ ?_
  clear st
  rintro m σ h20 Y ⟨i, sf, rfl, hi, st, rfl⟩ hY
  simp only
  by_cases hlt2 : i < CC.length
  · refine brT (by rw [l46]; exact dlt_t hlt2) ?_
    refine rdE (τ := i64) (st.own 5 rfl).rsl hlt2 ?_
    rw [negW (hokr _ (List.getElem_mem hlt2))]
    refine st.nw fun b88 h22 st => ?_
    simp only [List.cons_append, List.nil_append] at st
    refine st.apd (v := -CC[i]) 6 7 rfl rfl (by decide) rfl (by simp only [List.length_map, List.length_take]; omega) (by decide) rfl fun s89 h23 st => ?_
    simp only [List.set_cons_zero, List.set_cons_succ] at st
    have st := st.drop 7 rfl
    rw [inc_i (by omega)]
    refine hY _ _ _ ⟨i + 1, s89, rfl, by omega, ?_, rfl⟩ (by omega)
    have et : CC.take (i + 1) = CC.take i ++ [CC[i]] := by simp
    rw [et]
    simp only [negR, List.map_append, List.map_cons, List.map_nil]
    exact st
  refine brF (by rw [l46]; exact dlt_f hlt2) ?_
  clear hY
  rw [List.take_of_length_le (by omega), ← efl] at st
  have lsf : sf.len = CC.length := by
    have := osl_len (st.own 6 rfl)
    rw [this, efl]; simp
  refine brF (by rw [lsf, decide_eq_false_iff_not]; show ¬ ((CC.length : Int) > 4096); omega) ?_
  have hfc : rightC (failsP p A1 l[j].2) = true := by
    rw [efl]
    unfold rightC
    rw [Bool.and_eq_true, decide_eq_true_eq, List.all_eq_true]
    refine ⟨by rw [List.length_map]; omega, fun x hx => ?_⟩
    obtain ⟨w, hw, rfl⟩ := List.mem_map.1 hx
    have := rt_iff.1 (hokr w hw)
    exact rt_iff.2 (by omega)
  refine call_of (r8_Find_c (st.own 6 rfl).rsl (hal hG3 st) hfc (cls_right hE) (by simp only [clsE, List.length_map]; omega) hf) ?_
  rintro _ h24 ⟨s60, rfl, n60, x60⟩
  have st := st.new x60 n60
  simp only [List.cons_append, List.nil_append] at st
  have he0 := find_e0 hfc hE (by omega)
  cases hfd : (findP (failsP p A1 l[j].2) (clsE l)).2.1 with
  | false =>
    refine brT rfl ?_
    have hone : oneG l p A1 l[j] = none := by rw [oneG, if_neg (by simp [ho]), if_pos (.inr hfd)]
    have hS := sN (by
      have e1 : cd = cd.take k ++ cd[k] :: cd.drop (k + 1) := by simp
      rw [e1]; exact groupsGo_stop _ _ _ (by rw [← ej]; exact hone))
    exact outS ⟨none, 0, 0⟩ ⟨none, 0, 0⟩ ⟨none, 0, 0⟩ 1 st rfl fun h25 st => hK _ _ ⟨SrOk.nil0 hS, st.frame (by simp)⟩
  | true =>
    refine brF rfl ?_
    obtain ⟨g1, g2⟩ := find_good hE (by omega) hfd
    refine call_of (r9_named_c (st.fz 0 rfl) (st.own 7 rfl) g1 (by omega)) ?_
    rintro r95 h25 ⟨n95, x95⟩
    have st := st.new x95 n95
    simp only [List.cons_append, List.nil_append, addr_add, Nat.zero_add] at st ⊢
    refine st.st1 4 1 rfl (by simp) fun h26 st => ?_
    simp only [List.set_cons_zero, List.set_cons_succ] at st
    have st := ((st.drop 7 rfl).drop 6 rfl).drop 5 rfl
    exact put (named l (findP (failsP p A1 l[j].2) (clsE l)).1) r95 _ (by rw [oneG, if_neg (by simp [ho]), if_neg (fun q => q.elim (fun q => q he0) (fun q => by rw [hfd] at q; cases q))]) st

end Go.Proofs.S
