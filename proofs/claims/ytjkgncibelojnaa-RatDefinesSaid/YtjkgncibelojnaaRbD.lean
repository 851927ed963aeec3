/-
  RatDefines.
-/
import Derived.Test.YtjkgncibelojnaaRaL
import Derived.Test.YtjkgncibelojnaaRtV
set_option linter.unusedVariables false
set_option linter.unusedSimpArgs false
namespace Go.Proofs.S
open Go Go.Sx Go.Proofs Go.Cl Go.Rp Go.Rt

variable {h : Heap} {c d A ids xs ys : List Int} {l : List Ent} {cs : List (List Int)} {gs us vs : List Grp} {s s2 s3 sc : Sl} {fr : Fr} {G As : List Asn} {id p n : Int} {i : Nat} {b : Nat}

def Ents (h1 : Heap) (G : List Asn) (l : List Ent) (ps : List tPr.T) : Prop :=
  ps.length = l.length ∧ ∀ i (a : i < l.length) (b : i < ps.length), ps[i].1 = l[i].1 ∧ (At h1 (li l[i].2 ps[i].2.1) ∨ li l[i].2 ps[i].2.1 ∈ G)
theorem Ents.at {h1 h' : Heap} {ps : List tPr.T} (hp : Ents h1 G l ps) (st : Hs fr G As h') (x : Ext [] h1 h') (ho : At h' (rsn 2 tPr.vals ps s)) : At h' (ent l s) :=
  rsp_at hp.1 ho fun i a b => ⟨(hp.2 i a b).1, (hp.2 i a b).2.elim (fun k => k.ext x) fun k => by
    obtain ⟨j, hj⟩ := List.getElem?_of_mem k
    exact st.fz j hj⟩
theorem Ents.snoc {h1 : Heap} {ps : List tPr.T} {e : Ent} {q : Sl} (hp : Ents h1 G l ps) (hm : li e.2 q ∈ G) : Ents h1 G (l ++ [e]) (ps ++ [(e.1, q, ())]) := by
  have hl := hp.1
  refine ⟨by simp [hp.1], fun i a b => ?_⟩
  by_cases hi : i < l.length
  · rw [List.getElem_append_left hi, List.getElem_append_left (by rw [hp.1]; exact hi)]
    exact hp.2 i hi _
  · have e1 : i = l.length := by simp at a; omega
    subst e1
    rw [List.getElem_append_right (by omega), List.getElem_append_right (by omega)]
    simp only [hp.1, Nat.sub_self, List.getElem_cons_zero]
    exact ⟨trivial, .inr hm⟩
theorem headers (ps : List Sl) (st : Hs fr G As h) {vs : Array Value} {t : TypeId} (n : Nat) (hn : n = ps.length) (hvs : vs.toList = ps.map Ty.sl.enc) {K : Nat → HP}
    (hK : ∀ b h', Hs fr (G ++ [rsl Ty.sl.enc ps ⟨some ⟨b, 0, none⟩, n, n⟩]) As h' → K b h') : Sx.nw vs t K h := by
  subst hn
  refine st.nw fun b h1 st => ?_
  rw [hvs] at st
  have st := st.asSl As.length Ty.sl.enc ps (lastA _ _) rfl
  have st := st.froz As.length (by rw [List.getElem?_set_self (by simp)])
  rw [List.set_append_right _ _ (Nat.le_refl _), Nat.sub_self, List.set_cons_zero, List.eraseIdx_append_of_length_le (Nat.le_refl _), Nat.sub_self, List.eraseIdx_cons_zero, List.append_nil] at st
  exact hK b h1 st
theorem small_fuel (hl : l.length ≤ 1000) (hs : ∀ x ∈ l, x.2.length ≤ 6) : fuelE l ≤ 500000 := by
  unfold fuelE
  have h1 : (clsE l).length ≤ 1000 := by simpa [clsE] using hl
  have := flat_le (m := 1000) (k := 6) h1 fun c hc => by
    obtain ⟨x, hx, rfl⟩ := List.mem_map.1 hc
    exact hs x hx
  unfold fuelP; omega

set_option maxRecDepth 20000 in
set_option maxHeartbeats 2000000 in
theorem ratDefines_F {a1 a2 a3 : Int} (hA : At h (ll8 cs s)) (k0 : 0 ≤ a3) (k1 : a3 ≤ 255) (K : Bool → HP) (hK : ∀ x h', (x = true ∧ Ext [] h h') → K x h') : F_salvorlaw09_RatDefines s a1 a2 a3 K h := by
  unfold F_salvorlaw09_RatDefines
  refine call_of (awake9_c h) ?_
  rintro _ h0 ⟨rfl, x0⟩
  refine brF rfl ?_
  refine call_of (Made9o_c (m := 8) (hA.ext x0) (by decide)) ?_
  rintro so h2 ⟨ps0, h1, hps, x1, hrow, nO, x2⟩
  have st := (Hs.start h1 [] (by simp)).new x2 nO
  have x01 : Ext [] h h1 := x0.nil_trans x1
  have hrg := made_right cs 8 (by decide)
  have hml := allR_len cs 8
  have hmm : ∀ c ∈ allR cs 8, c.length ≤ 6 ∧ ∀ z ∈ c, -6 ≤ z ∧ z ≤ 6 := fun c hc => by
    obtain ⟨d, rfl⟩ := allR_mem hc
    exact ⟨madeR_len d, fun z hz => by have := madeR_range hz; omega⟩
  have hEnt := fun G => (show Ents h1 G (numE (allR cs 8)) (numP ps0) from ⟨by simp [numP, numE, hps], fun i a b => by
    have a' : i < (allR cs 8).length := by rw [numE_len] at a; exact a
    rw [numE_at a']
    have e : (numP ps0)[i] = ((i : Int) + 1, ps0[i]'(by omega), ()) := by simp [numP]
    rw [e]
    exact ⟨rfl, .inl (hrow i a' (by omega)).at⟩⟩)
  have hid : ∀ x ∈ numE (allR cs 8), x.1 < 100 + (numE (allR cs 8)).length := fun x hx => by have := numE_mem hx; omega
  have hsm : ∀ x ∈ numE (allR cs 8), x.2.length ≤ 6 ∧ ∀ z ∈ x.2, -6 ≤ z ∧ z ≤ 6 := fun x hx => hmm _ (numE_mem hx).1
  have hnl : (numE (allR cs 8)).length ≤ 8 := by rw [numE_len]; exact hml
  clear hrow hps hmm hml
  generalize numE (allR cs 8) = l0 at *
  generalize numP ps0 = pp0 at *
  simp only [List.nil_append] at st
  refine st.nw fun b2 h3 st => ?_
  have st := (st.asSl 1 (Ty.int .i8).enc [a1] rfl rfl).froz 1 rfl
  simp only [List.nil_append, List.cons_append, List.set_cons_succ, List.set_cons_zero, List.eraseIdx_cons_succ, List.eraseIdx_cons_zero] at st
  refine call_of (Made_c (st.fz 0 rfl)) ?_
  rintro s3 h4 ⟨n4, x4⟩
  have st := (st.new x4 n4).froz 1 rfl
  simp only [List.nil_append, List.cons_append, List.eraseIdx_cons_succ, List.eraseIdx_cons_zero] at st
  refine st.nw fun b4 h5 st => ?_
  have st := (st.asSl 1 (Ty.int .i8).enc [a2] rfl rfl).froz 1 rfl
  simp only [List.nil_append, List.cons_append, List.set_cons_succ, List.set_cons_zero, List.eraseIdx_cons_succ, List.eraseIdx_cons_zero] at st
  refine call_of (Made_c (st.fz 2 rfl)) ?_
  rintro s5 h6 ⟨n6, x6⟩
  have st := (st.new x6 n6).froz 1 rfl
  simp only [List.nil_append, List.cons_append, List.eraseIdx_cons_succ, List.eraseIdx_cons_zero] at st
  have e1 : madeR [a1] = [litR a1] := rfl
  have e2 : madeR [a2] = [litR a2] := rfl
  rw [e1, e2] at st
  have hx := litR_range a1
  have hy := litR_range a2
  generalize litR a1 = x at *
  generalize litR a2 = y at *
  refine rdE (τ := i64) (i := 0) (st.fz 1 rfl) (by simp) ?_
  refine rdE (τ := i64) (i := 0) (st.fz 3 rfl) (by simp) ?_
  simp only [List.getElem_cons_zero]
  rw [wrap_i64 (x := 0 - x) (by omega) (by omega), wrap_i64 (x := 0 - y) (by omega) (by omega), Int.zero_sub, Int.zero_sub]
  refine Hs.lit st [-9, x] 2 rfl rfl fun b10 hh st => ?_
  refine Hs.lit st [-9, y] 2 rfl rfl fun b11 hh st => ?_
  refine Hs.lit st [9, -x, -y] 3 rfl rfl fun b12 hh st => ?_
  refine headers [⟨some ⟨b10, 0, none⟩, 2, 2⟩, ⟨some ⟨b11, 0, none⟩, 2, 2⟩, ⟨some ⟨b12, 0, none⟩, 3, 3⟩] st 3 rfl rfl fun b13 hh st => ?_
  refine Hs.lit st [0, 1, 2] 3 rfl rfl fun b14 hh st => ?_
  refine Hs.lit st [0, 2, 1] 3 rfl rfl fun b15 hh st => ?_
  refine Hs.lit st [1, 0, 2] 3 rfl rfl fun b16 hh st => ?_
  refine Hs.lit st [1, 2, 0] 3 rfl rfl fun b17 hh st => ?_
  refine Hs.lit st [2, 0, 1] 3 rfl rfl fun b18 hh st => ?_
  refine Hs.lit st [2, 1, 0] 3 rfl rfl fun b19 hh st => ?_
  refine headers [⟨some ⟨b14, 0, none⟩, 3, 3⟩, ⟨some ⟨b15, 0, none⟩, 3, 3⟩, ⟨some ⟨b16, 0, none⟩, 3, 3⟩, ⟨some ⟨b17, 0, none⟩, 3, 3⟩, ⟨some ⟨b18, 0, none⟩, 3, 3⟩, ⟨some ⟨b19, 0, none⟩, 3, 3⟩] st 6 rfl rfl fun b20 h10 st => ?_
  simp only [List.nil_append, List.cons_append] at st
  refine ⟨by decide, ?_⟩
  obtain ⟨k, hk⟩ : ∃ k : Nat, k = a3.toNat % 6 := ⟨_, rfl⟩
  have hk6 : k < 6 := by omega
  have ei : Int.tmod a3 6 = (k : Int) := by rw [Int.tmod_eq_emod_of_nonneg k0]; omega
  rw [ei]
  refine rdE (τ := .sl) (s := ⟨some ⟨b20, 0, none⟩, 6, 6⟩) (i := k) (st.fz 14 rfl) hk6 ?_
  obtain ⟨G, hG⟩ : ∃ G, G = [rsl (Ty.int .i8).enc [a1] ⟨some ⟨b2, 0, none⟩, 1, 1⟩, li [x] s3, rsl (Ty.int .i8).enc [a2] ⟨some ⟨b4, 0, none⟩, 1, 1⟩, li [y] s5, li [-9, x] ⟨some ⟨b10, 0, none⟩, 2, 2⟩, li [-9, y] ⟨some ⟨b11, 0, none⟩, 2, 2⟩, li [9, -x, -y] ⟨some ⟨b12, 0, none⟩, 3, 3⟩,
    rsl Ty.sl.enc [⟨some ⟨b10, 0, none⟩, 2, 2⟩, ⟨some ⟨b11, 0, none⟩, 2, 2⟩, ⟨some ⟨b12, 0, none⟩, 3, 3⟩] ⟨some ⟨b13, 0, none⟩, 3, 3⟩,
    li [0, 1, 2] ⟨some ⟨b14, 0, none⟩, 3, 3⟩, li [0, 2, 1] ⟨some ⟨b15, 0, none⟩, 3, 3⟩, li [1, 0, 2] ⟨some ⟨b16, 0, none⟩, 3, 3⟩, li [1, 2, 0] ⟨some ⟨b17, 0, none⟩, 3, 3⟩, li [2, 0, 1] ⟨some ⟨b18, 0, none⟩, 3, 3⟩, li [2, 1, 0] ⟨some ⟨b19, 0, none⟩, 3, 3⟩,
    rsl Ty.sl.enc [⟨some ⟨b14, 0, none⟩, 3, 3⟩, ⟨some ⟨b15, 0, none⟩, 3, 3⟩, ⟨some ⟨b16, 0, none⟩, 3, 3⟩, ⟨some ⟨b17, 0, none⟩, 3, 3⟩, ⟨some ⟨b18, 0, none⟩, 3, 3⟩, ⟨some ⟨b19, 0, none⟩, 3, 3⟩] ⟨some ⟨b20, 0, none⟩, 6, 6⟩] := ⟨_, rfl⟩
  have st : Hs [([], h1)] G [osn ty_rat_Entry 2 tPr.vals pp0 so] h10 := by rw [hG]; exact st
  have perm : ∃ (w : List Int), w.length = 3 ∧ (∀ z ∈ w, z = 0 ∨ z = 1 ∨ z = 2) ∧ ∃ j : Nat, G[j]? = some (li w ([⟨some ⟨b14, 0, none⟩, 3, 3⟩, ⟨some ⟨b15, 0, none⟩, 3, 3⟩, ⟨some ⟨b16, 0, none⟩, 3, 3⟩, ⟨some ⟨b17, 0, none⟩, 3, 3⟩, ⟨some ⟨b18, 0, none⟩, 3, 3⟩, ⟨some ⟨b19, 0, none⟩, 3, 3⟩] : List Sl)[k]) := by
    rw [hG]
    match k, hk6 with
    | 0, _ => exact ⟨[0, 1, 2], rfl, by decide, 8, rfl⟩
    | 1, _ => exact ⟨[0, 2, 1], rfl, by decide, 9, rfl⟩
    | 2, _ => exact ⟨[1, 0, 2], rfl, by decide, 10, rfl⟩
    | 3, _ => exact ⟨[1, 2, 0], rfl, by decide, 11, rfl⟩
    | 4, _ => exact ⟨[2, 0, 1], rfl, by decide, 12, rfl⟩
    | 5, _ => exact ⟨[2, 1, 0], rfl, by decide, 13, rfl⟩
  obtain ⟨w, hw3, hwz, jw, hjw⟩ := perm
  generalize ([⟨some ⟨b14, 0, none⟩, 3, 3⟩, ⟨some ⟨b15, 0, none⟩, 3, 3⟩, ⟨some ⟨b16, 0, none⟩, 3, 3⟩, ⟨some ⟨b17, 0, none⟩, 3, 3⟩, ⟨some ⟨b18, 0, none⟩, 3, 3⟩, ⟨some ⟨b19, 0, none⟩, 3, 3⟩] : List Sl)[k] = sw at hjw ⊢
  -- the clauses by their number
  have dfn : ∀ z : Int, (z = 0 ∨ z = 1 ∨ z = 2) → ∃ (d : List Int) (q : Sl), d ∈ defs x y ∧ d.length ≤ 3 ∧ li d q ∈ G ∧ ∀ h' As (K : Sl → HP), Hs [([], h1)] G As h' → K q h' → sx (some ⟨b13, 0, none⟩) 3 z 1 (fun p => ldT .sl p K) h' := by
    rw [hG]
    rintro z (rfl | rfl | rfl)
    · exact ⟨[-9, x], ⟨some ⟨b10, 0, none⟩, 2, 2⟩, by simp [defs], by simp, by simp, fun h' As K st hK => rdE (τ := .sl) (s := ⟨some ⟨b13, 0, none⟩, 3, 3⟩) (i := 0) (st.fz 7 rfl) (by simp) hK⟩
    · exact ⟨[-9, y], ⟨some ⟨b11, 0, none⟩, 2, 2⟩, by simp [defs], by simp, by simp, fun h' As K st hK => rdE (τ := .sl) (s := ⟨some ⟨b13, 0, none⟩, 3, 3⟩) (i := 1) (st.fz 7 rfl) (by simp) hK⟩
    · exact ⟨[9, -x, -y], ⟨some ⟨b12, 0, none⟩, 3, 3⟩, by simp [defs], by simp, by simp, fun h' As K st hK => rdE (τ := .sl) (s := ⟨some ⟨b13, 0, none⟩, 3, 3⟩) (i := 2) (st.fz 7 rfl) (by simp) hK⟩
  clear hG
  have lw := rsl_len (st.fz jw hjw)
  refine lfp_invh (I := fun m σ h' => ∃ (j : Nat) (sA : Sl) (bb : Bool) (l : List Ent) (ps : List tPr.T), σ = ((j : Int), sA, bb, ()) ∧ j ≤ w.length ∧ l.length = l0.length + j ∧ rightE l = true ∧ Defd x y l ∧ (∀ e ∈ l, e.1 < 100 + l.length) ∧ (∀ e ∈ l, e.2.length ≤ 6) ∧ Ents h1 G l ps ∧
      Hs [([], h1)] G [osn ty_rat_Entry 2 tPr.vals ps sA] h' ∧ m = w.length - j)
    ⟨_, 0, so, false, l0, pp0, rfl, by omega, by omega, hrg, fun e he => .inl (hsm e he).2, hid, fun e he => (hsm e he).1, hEnt G, st, rfl⟩ ?_
  clear st hrg hid hsm hEnt
  rintro m σ h11 X ⟨j, sA, bb, l, ps, rfl, hj, hll, hE, hD, hid, hsm, hEnt, st, rfl⟩ hX
  simp only
  have hA9 : ∀ h' As, Hs [([], h1)] G (osn ty_rat_Entry 2 tPr.vals ps sA :: As) h' → At h' (ent l sA) := fun h' As st => hEnt.at st (st.frame (by simp)) ((st.own 0 rfl).rsn widePr)
  by_cases hlt : j < w.length
  · refine brT (by rw [lw]; exact dlt_t hlt) ?_
    refine rdE (τ := i64) (st.fz jw hjw) hlt ?_
    obtain ⟨d, q, hd, hdl, hdG, hrd⟩ := dfn w[j] (hwz _ (List.getElem_mem hlt))
    generalize w[j] = z at hrd ⊢
    refine hrd _ _ _ st ?_
    obtain ⟨jd, hjd⟩ := List.getElem?_of_mem hdG
    have hfu : fuelE l ≤ 500000 := small_fuel (by omega) hsm
    refine call_of (Search_c (hA9 _ _ st) (st.fz jd hjd) (by omega) (by omega) hfu) ?_
    rintro _ h12 ⟨sL, sH, sG, rfl, nL, nH, nG, x12⟩
    have hfd := defs_found hx hy hE (by omega) hD hd
    obtain ⟨hck, hlits, herr⟩ := search_right (by omega) hfd
    have hlens := search_lens (c := d) hE (by omega) hfu
    have hrd2 := defs_right hx hy hd
    generalize searchP l d = R at hck hlits herr hlens hfd nL nH nG ⊢
    obtain ⟨⟨fL, fH, fG⟩, fk, fok, fe⟩ := R
    have hlits : fL = d := hlits
    have herr : fe = 0 := herr
    have hfd : fok = true := hfd
    have hck : checkS l ⟨fL, fH, fG⟩ = (fk, 0, 0) := hck
    subst hlits herr hfd
    have hcz := (checkS_zero hck).2 rfl
    simp only at hlens nL nH nG ⊢
    have st := Hs.fzNew (Bs := [lo fL sL, nio' fH sH, ent fG sG]) st x12 (by
      intro B hB
      simp only [List.mem_cons, List.not_mem_nil, or_false] at hB
      rcases hB with rfl | rfl | rfl
      · exact nL
      · exact nH
      · exact nG)
    refine st.nw fun b30 h13 st => ?_
    simp only [List.nil_append, List.cons_append, addr_add, Nat.zero_add] at st ⊢
    refine st.st1 1 0 rfl (by simp) fun h14 st => ?_
    refine st.st1 1 1 rfl (by simp) fun h15 st => ?_
    refine st.st1 1 2 rfl (by simp) fun h16 st => ?_
    simp only [List.set_cons_zero, List.set_cons_succ] at st
    refine jn_in fun J hJ => brF rfl (hJ _ _ ?_)
    clear hJ J
    refine jn_in fun J hJ => brF rfl ?_
    refine jn_mid (M := fun t h' => t = false ∧ h' = h16) ?_ ?_
    rotate_left
    · intro L hL
      rcases hcz.2 with rfl | rfl
      · exact brF rfl (hL _ _ ⟨rfl, rfl⟩)
      · exact brT rfl (hL _ _ ⟨rfl, rfl⟩)
    rintro _ h17 ⟨rfl, e⟩
    subst e
    refine hJ _ _ (brF rfl ?_)
    clear hJ J
    refine ldRow (τ := .cons .sl (.cons .sl (.cons .sl .nil))) (x := (sL, sH, sG, ())) (st.blk 1 rfl) ?_
    have stG := st.less (G' := G) fun A hA => List.mem_append_left _ hA
    refine call_of (RatCheck_c (hA9 _ _ stG) (st.fzm (A := lo fL sL) (by simp)).rsl (st.fzm (A := nio' fH sH) (by simp)).rsl (st.fzm (A := ent fG sG) (by simp)) (by omega) (by omega) hlens.1 (by omega) hlens.2.2) ?_
    rintro _ h18 ⟨rfl, x18⟩
    have st := stG.ext x18
    rw [hck]
    simp only
    refine jn_in fun J hJ => brF rfl (hJ _ _ ?_)
    clear hJ J
    refine brF (by simp) ?_
    refine hrd _ _ _ st ?_
    have lsA : sA.len = l.length := by rw [osn_len (st.own 0 rfl), hEnt.1]
    rw [show IntKind.wrap .i64 ((100 : Int) + (sA.len : Int)) = (100 : Int) + (l.length : Int) by rw [lsA, wrap_i64 (by omega) (by omega)]]
    refine st.nw fun b41 h19 st => ?_
    simp only [List.nil_append, List.cons_append] at st
    refine Hs.apdN (v := (((100 : Int) + (l.length : Int), q, ()) : tPr.T)) st widePr (by decide) 0 2 rfl rfl (by decide) (fun u hu => by
      have hu : u ∈ [Value.int .i64 ((100 : Int) + (l.length : Int)), .slice q.a q.len q.cap] := hu
      simp only [List.mem_cons, List.not_mem_nil, or_false] at hu
      rcases hu with rfl | rfl <;> rfl) (by rw [hEnt.1]; omega) (by decide) rfl fun s42 h20 st => ?_
    simp only [List.set_cons_zero, List.set_cons_succ] at st
    rw [inc_i (by omega)]
    have ll2 : (l ++ [((100 : Int) + (l.length : Int), fL)]).length = l.length + 1 := by simp
    refine hX _ _ _ ⟨j + 1, s42, bb, l ++ [(100 + (l.length : Int), fL)], ps ++ [(100 + (l.length : Int), q, ())], rfl, by omega, by omega, ?_, hD.snoc hd, ?_, ?_, hEnt.snoc hdG, (st.drop 2 rfl).drop 1 rfl, rfl⟩ (by omega)
    · exact rightE_snoc hE (fun e he => by have := hid e he; simp only; omega) (by simp only; omega) (by unfold maxID; simp only; omega) hrd2 (by omega)
    · intro e he
      rw [ll2]
      rcases List.mem_append.1 he with he | he
      · have := hid e he; omega
      · simp only [List.mem_singleton] at he; subst he; simp only; omega
    · intro e he
      rcases List.mem_append.1 he with he | he
      · exact hsm e he
      · simp only [List.mem_singleton] at he; subst he; simp only; omega
  · refine brF (by rw [lw]; exact dlt_f hlt) ?_
    refine call_of (ratRight_c (hA9 _ _ st) (by omega)) ?_
    rintro _ h12 ⟨rfl, x12⟩
    exact hK _ _ ⟨hE, x01.nil_trans ((st.ext x12).frame (by simp))⟩

end Go.Proofs.S
