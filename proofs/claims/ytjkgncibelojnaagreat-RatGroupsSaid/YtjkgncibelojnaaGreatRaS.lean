/-
  RatGroups: the law.
-/
import Derived.Test.YtjkgncibelojnaaGreatRaR
import Derived.Test.YtjkgncibelojnaaGreatSxT
import Derived.Test.YtjkgncibelojnaaGreatSxG
import Derived.Test.YtjkgncibelojnaaGreatSxN
import Derived.Deep.Slices
import Derived.Test.YtjkgncibelojnaaGreatRaL
import Derived.Test.YtjkgncibelojnaaGreatRows
import Derived.Test.YtjkgncibelojnaaGreatChecked
set_option linter.unusedVariables false
set_option linter.unusedSimpArgs false
namespace Go.Proofs.S
open Go Go.Sx Go.Proofs Go.Cl Go.Rp Go.Rt

variable {h : Heap} {c d A f ids hs xs : List Int} {l bad X : List Ent} {cs : List (List Int)} {gs us vs : List Grp} {s s2 s3 s4 sc sa sb sL sH sG : Sl} {fr : Fr} {G As : List Asn} {id p n a2 : Int} {i k : Nat} {b m b4 : Nat}

theorem apd2 {K : Sl → HP} {ps : List tPr.T} {v1 v2 : tPr.T} (st : Hs fr G As h) (k kx : Nat) (hk : As[k]? = some (osn ty_rat_Entry 2 tPr.vals ps s)) (hkx : As[kx]? = some (cl b ty_rat_Entry (tPr.vals v1 ++ tPr.vals v2))) (hl : ps.length ≤ 1000000)
    (hK : ∀ s' h', Hs fr G (As.set k (osn ty_rat_Entry 2 tPr.vals (ps ++ [v1, v2]) s')) h' → K s' h') : Sx.apd ty_rat_Entry 2 32 #[.int .i64 0, .slice none 0 0] s ⟨some ⟨b, 0, none⟩, 2, 2⟩ K h := by
  have hr : At h (rsn 2 tPr.vals [v1, v2] ⟨some ⟨b, 0, none⟩, 2, 2⟩) := ⟨[b], osn_rsn widePr (t := ty_rat_Entry) (.inl ⟨b, [], 0, rfl, rfl, by simp, by simpa using st.blk kx hkx⟩)⟩
  exact Hs.apdNS st widePr (by decide) k hk hr leafPr (by simp; omega) (by decide) rfl hK

theorem more_right (hE : rightE l = true) (hl : l.length ≤ 100) (hid : ∀ x ∈ l, x.1 ≤ 100) (hp : rt p = true) : rightE (l ++ [(900, [20, p]), (901, [-p, p])]) = true := by
  have h1 : rightE (l ++ [(900, [20, p])]) = true := rightE_snoc hE (fun x hx => by have := hid x hx; simp only; omega) (show (0 : Int) < 900 by decide) (show (900 : Int) ≤ maxID by decide) (by simp [rightC, hp]; decide) (by omega)
  have h2 := rightE_snoc (e := (901, [-p, p])) h1 (fun x hx => by
    rcases List.mem_append.1 hx with hx | hx
    · have := hid x hx; simp only; omega
    · simp only [List.mem_singleton] at hx; subst hx; exact (show (900 : Int) < 901 by decide)) (show (0 : Int) < 901 by decide) (show (901 : Int) ≤ maxID by decide) (by simp [rightC, hp, rt_neg hp]) (by simp; omega)
  simpa using h2
theorem more_no (h0 : p ≠ 0) (h1 : -6 ≤ p) (h2 : p ≤ 6) : ∀ x ∈ [((900 : Int), [20, p]), (901, [-p, p])], isCand p x = false := by
  intro x hx
  simp only [List.mem_cons, List.not_mem_nil, or_false] at hx
  rcases hx with rfl | rfl
  · unfold isCand
    have : ([20, p] : List Int).contains (-p) = false := by simp; omega
    simp only [this, Bool.false_and]
  · unfold isCand
    have : alwaysC [-p, p] = true := by unfold alwaysC; simp
    simp only [this]; simp

set_option maxRecDepth 20000 in
set_option maxHeartbeats 2000000 in
theorem ratGroups_F (hA : At h (ll8 cs s)) (hB : At h (l8 xs s2)) (k0 : 0 ≤ a2) (k1 : a2 ≤ 255) (K : Bool → HP) (hK : ∀ x h', (x = true ∧ Ext [] h h') → K x h') : F_salvorlaw09_RatGroups s s2 a2 K h := by
  unfold F_salvorlaw09_RatGroups
  refine call_of (awake9_c h) ?_
  rintro _ h0 ⟨rfl, x0⟩
  refine brF rfl ?_
  refine call_of (Made9_c (m := 10) (hA.ext x0) (by decide)) ?_
  rintro sa h1 ⟨_, _, _, nE, x1⟩
  have x01 := x0.nil_trans x1
  refine call_of (Made_c (hB.ext x01)) ?_
  rintro s3 h2 ⟨n2, x2⟩
  have x02 := x01.nil_trans x2
  have hE := made_right cs 10 (by decide)
  have hfu := made_fuel cs 10 (by decide)
  have hid : ∀ x ∈ numE (allR cs 10), x.1 ≤ 100 := fun x hx => by have := (numE_mem hx).2.2; have := allR_len cs 10; omega
  have hll : (numE (allR cs 10)).length ≤ 10 := by rw [numE_len]; exact allR_len cs 10
  generalize numE (allR cs 10) = l at *
  have hrc := madeR_right xs
  have hcl := madeR_len xs
  have hcs : ∀ y ∈ madeR xs, y ≠ 0 ∧ -6 ≤ y ∧ y ≤ 6 := fun y hy => madeR_range hy
  generalize madeR xs = c at *
  obtain ⟨ps, hps, hpr⟩ := rows_open (nE.at.ext x2)
  have st := Hs.start h2 [ent l sa, li c s3, rsn 2 tPr.vals ps sa] (by
    have := nE.at.ext x2
    have := n2.at.rsl
    simp [*])
  refine call_of (Search_c (st.fz 0 rfl) (st.fz 1 rfl) (by omega) (by omega) hfu) ?_
  rintro _ h4 ⟨sL, sH, sG, rfl, nL, nH, nG, x4⟩
  have err := search_err hE (by omega) hrc
  have hlens := search_lens (c := c) hE (by omega) hfu
  have hsr := @search_right l c (by omega)
  have hsp := fun p => @search_parts l c p (by omega)
  generalize searchP l c = R at nL nH nG err hlens hsr hsp ⊢
  obtain ⟨⟨fL, fH, fG⟩, fk, fok, fe⟩ := R
  simp only at nL nH nG err hlens hsr hsp ⊢
  subst err
  have st := Hs.fzNew (Bs := [lo fL sL, nio' fH sH, ent fG sG]) st x4 (by
    intro B hB
    simp only [List.mem_cons, List.not_mem_nil, or_false] at hB
    rcases hB with rfl | rfl | rfl
    · exact nL
    · exact nH
    · exact nG)
  simp only [List.nil_append, List.cons_append] at st
  refine st.nw fun b4 h5 st => ?_
  simp only [List.nil_append, List.cons_append, addr_add, Nat.zero_add] at st ⊢
  refine st.st1 0 0 rfl (by simp) fun h6 st => ?_
  refine st.st1 0 1 rfl (by simp) fun h6 st => ?_
  refine st.st1 0 2 rfl (by simp) fun h6 st => ?_
  simp only [List.set_cons_zero, List.set_cons_succ] at st
  have st := st.freeze 0 rfl
  simp only [List.nil_append, List.cons_append, List.eraseIdx_cons_zero] at st
  refine jn_in fun J hJ => brF rfl ?_
  refine hJ _ _ ?_
  clear J hJ
  cases fok with
  | false =>
    refine jn_in fun J hJ => brT rfl (hJ _ _ (brT rfl (hK _ _ ⟨rfl, x02.nil_trans (st.frame (by simp))⟩)))
  | true =>
  obtain ⟨hck, hlits, _⟩ := hsr rfl
  have hlits : fL = c := hlits
  have hck : checkS l ⟨fL, fH, fG⟩ = (fk, 0, 0) := hck
  subst hlits
  refine jn_in fun J hJ => brF rfl (hJ _ _ ?_)
  clear J hJ
  by_cases hk2 : fk = 2
  rotate_left
  · exact brT (by simpa using hk2) (hK _ _ ⟨rfl, x02.nil_trans (st.frame (by simp))⟩)
  subst hk2
  refine brF rfl ?_
  obtain ⟨p, r, rfl⟩ : ∃ p r, fL = p :: r := by
    cases fL with
    | nil =>
      exfalso
      unfold checkS at hck
      have hE' : (!rightE l) = false := by rw [hE]; rfl
      simp only [hE', Bool.false_eq_true, if_false] at hck
      split at hck
      · simp at hck
      split at hck
      · simp at hck
      split at hck
      · simp at hck
      split at hck
      · simp at hck
      · simp at hck
    | cons p r => exact ⟨p, r, rfl⟩
  have hp := hcs p (by simp)
  have hpr1 : rt p = true := rt_iff.2 (by omega)
  obtain ⟨hs1, hs2, hs3, _⟩ := hsp p rfl
  have hgo : GrpOk l p fG := hs3 rfl r rfl
  refine rdE (τ := i64) (i := 0) (st.fz 1 rfl) (by simp) ?_
  simp only [List.getElem_cons_zero]
  refine call_of (Candidates_c (st.fz 0 rfl) (by omega) p) ?_
  rintro _ h7 ⟨s11, rfl, n11, x11⟩
  have ec : candsA l p = (candIDs l p, 0) := by unfold candsA; rw [hE, hpr1]; rfl
  rw [ec] at n11 ⊢
  have st := (st.new x11 n11).froz 0 rfl
  simp only [List.nil_append, List.cons_append, List.eraseIdx_cons_zero] at st
  have lids : (candIDs l p).length = fG.length := by rw [← hgo.ids]; simp
  have l11 := rsl_len (st.fz 7 rfl)
  have lG := rsp_len (st.fz 5 rfl)
  refine jn_in fun J hJ => brF rfl ?_
  rw [ld_sl (i := 2) (st.fblk 6 rfl) rfl]
  refine hJ _ _ (brF (by rw [l11, lG, lids]; simp) ?_)
  clear J hJ
  obtain ⟨GG, hGG⟩ : ∃ GG : List Asn, GG = [ent l sa, li (p :: r) s3, rsn 2 tPr.vals ps sa, lo (p :: r) sL, nio' fH sH, ent fG sG, cl b4 ty_rat_Step [.slice sL.a sL.len sL.cap, .slice sH.a sH.len sH.cap, .slice sG.a sG.len sG.cap], li (candIDs l p) s11] := ⟨_, rfl⟩
  have st : Hs [([], h2)] GG [] h7 := by rw [hGG]; exact st
  have x27 : Ext [] h2 h7 := st.frame (by simp)
  have xb := x02.nil_trans x27
  have hall : ∀ A ∈ GG, At h7 A := fun A hA => st.fzm hA
  have st := Hs.start h7 GG hall
  have hps7 := hps.ext x27
  have lps := hps.1
  have hmr := more_right hE (by omega) hid hpr1
  have hmn := more_no hp.1 hp.2.1 hp.2.2
  have hck2 : checkS (l ++ [(900, [20, p]), (901, [-p, p])]) ⟨p :: r, fH, fG⟩ = (2, 0, 0) := by
    rw [check_more (s := ⟨p :: r, fH, fG⟩) rfl hE hmr hmn hs1 hs2]; exact hck
  have h900 : (900 : Int) ∉ candIDs l p := fun hm => by
    obtain ⟨j, hj, e, _⟩ := cand_at hm
    have := hid _ (List.getElem_mem hj)
    omega
  have g0 : GG[0]? = some (ent l sa) := by rw [hGG]; rfl
  have g1 : GG[1]? = some (li (p :: r) s3) := by rw [hGG]; rfl
  have g2 : GG[2]? = some (rsn 2 tPr.vals ps sa) := by rw [hGG]; rfl
  have g3 : GG[3]? = some (lo (p :: r) sL) := by rw [hGG]; rfl
  have g4 : GG[4]? = some (nio' fH sH) := by rw [hGG]; rfl
  have g5 : GG[5]? = some (ent fG sG) := by rw [hGG]; rfl
  have g6 : GG[6]? = some (cl b4 ty_rat_Step [.slice sL.a sL.len sL.cap, .slice sH.a sH.len sH.cap, .slice sG.a sG.len sG.cap]) := by rw [hGG]; rfl
  have g7 : GG[7]? = some (li (candIDs l p) s11) := by rw [hGG]; rfl
  have tail : ∀ (q1 q2 sb : Sl) h' G' As', Hs [([], h7)] G' As' h' → li [20, p] q1 ∈ G' → li [-p, p] q2 ∈ G' → At h' (rsn 2 tPr.vals (ps ++ [(900, q1, ()), (901, q2, ())]) sb) → GrTl b4 sa s11 a2 sb K h' := by
    intro q1 q2 sb h' G' As' st' m1 m2 ho
    have xx := st'.frame (h0 := h7) (by simp)
    have aB : At h' (ent (l ++ [(900, [20, p]), (901, [-p, p])]) sb) := by
      have hr2 := ((hps7.ext xx).snoc (g := (900, [20, p])) (st'.fzm m1)).snoc (g := (901, [-p, p])) (st'.fzm m2)
      rw [List.append_assoc, List.append_assoc] at hr2
      exact hr2.toE ho
    refine grTl_c (l := l) (X := [(900, [20, p]), (901, [-p, p])]) (ids := candIDs l p) (c := p :: r) (p := p) (r := r) (hs := fH) (gs := fG) ((st.fz 6 g6).ext xx) ((st.fz 0 g0).ext xx) ((st.fz 7 g7).ext xx) aB ((st.fz 3 g3).rsl.ext xx) ((st.fz 4 g4).rsl.ext xx) ((st.fz 5 g5).ext xx)
      (by omega) (by simp; omega) (by omega) hlens.1 (by rw [← lids]; have := List.length_filter_le (isCand p) l; unfold candIDs; simp; omega) hlens.2.2 rfl hgo rfl h900 hmn hck hck2 k0 k1 fun h9 x9 => hK _ _ ⟨rfl, xb.nil_trans (xx.nil_trans x9)⟩
  clear hall hck hck2 hs1 hs2 hs3 hsp hsr hmr hmn
  refine intAtR (i := 0) (st.fz 1 g1) (by simp) fun p14 hp14 => ?_
  refine intAtR (i := 0) (st.fz 1 g1) (by simp) fun p16 hp16 => ?_
  refine intAtR (i := 0) (st.fz 1 g1) (by simp) fun p18 hp18 => ?_
  simp only [List.getElem_cons_zero] at hp14 hp16 hp18 ⊢
  rw [wrap_i64 (x := 0 - p) (by omega) (by omega), Int.zero_sub]
  have lit1 : ∀ {As : List Asn} {G' : List Asn} {h' : Heap} {K : Nat → HP}, Hs [([], h7)] G' As h' → (∀ b h2, Hs [([], h7)] (G' ++ [li [20, p] ⟨some ⟨b, 0, none⟩, 2, 2⟩]) As h2 → K b h2) → nw #[(.int .i64 (20 : Int)), (.int .i64 p)] ty_lits_Lit K h' := fun st hK => Hs.lit st [20, p] 2 rfl rfl hK
  have lit2 : ∀ {As : List Asn} {G' : List Asn} {h' : Heap} {K : Nat → HP}, Hs [([], h7)] G' As h' → (∀ b h2, Hs [([], h7)] (G' ++ [li [-p, p] ⟨some ⟨b, 0, none⟩, 2, 2⟩]) As h2 → K b h2) → nw #[(.int .i64 (-p)), (.int .i64 p)] ty_lits_Lit K h' := fun st hK => Hs.lit st [-p, p] 2 rfl rfl hK
  have fzc : ∀ {As : List Asn} {G' : List Asn} {h' : Heap} {A : Asn} (k : Nat), Hs [([], h7)] G' As h' → (∀ B ∈ GG, B ∈ G') → GG[k]? = some A → At h' A := fun k st hs hk => st.fzm (hs _ (List.mem_of_getElem? hk))
  have cks : ∀ {As : List Asn} {G' : List Asn} {h' : Heap} {X : HP}, Hs [([], h7)] G' As h' → (∀ B ∈ GG, B ∈ G') → X h' → (ck p18 (.int .i64 p) <| ck p16 (.int .i64 p) <| ck p14 (.int .i64 p) <| X) h' := fun st hs hX =>
    hp18 _ _ (st.fzm (hs _ (List.mem_of_getElem? g1))) (hp16 _ _ (st.fzm (hs _ (List.mem_of_getElem? g1))) (hp14 _ _ (st.fzm (hs _ (List.mem_of_getElem? g1))) hX))
  constructor
  · refine cloneE_rat st (st.fz 2 g2) (by omega) fun r20 h10 st => ?_
    simp only [List.nil_append] at st
    refine cks st (fun B hB => hB) ?_
    constructor
    · refine lit1 st fun b21 h11 st => ?_
      refine lit2 st fun b22 h12 st => ?_
      refine st.nw fun b23 h13 st => ?_
      simp only [List.nil_append, List.cons_append] at st
      refine apd2 (v1 := (900, ⟨some ⟨b21, 0, none⟩, 2, 2⟩, ())) (v2 := (901, ⟨some ⟨b22, 0, none⟩, 2, 2⟩, ())) st 0 1 rfl rfl (by omega) fun s24 h14 st => ?_
      exact tail ⟨some ⟨b21, 0, none⟩, 2, 2⟩ ⟨some ⟨b22, 0, none⟩, 2, 2⟩ s24 h14 _ _ st (by simp) (by simp) ((st.own 0 rfl).rsn widePr)
    · refine lit2 st fun b22 h11 st => ?_
      refine lit1 st fun b21 h12 st => ?_
      refine st.nw fun b23 h13 st => ?_
      simp only [List.nil_append, List.cons_append] at st
      refine apd2 (v1 := (900, ⟨some ⟨b21, 0, none⟩, 2, 2⟩, ())) (v2 := (901, ⟨some ⟨b22, 0, none⟩, 2, 2⟩, ())) st 0 1 rfl rfl (by omega) fun s24 h14 st => ?_
      exact tail ⟨some ⟨b21, 0, none⟩, 2, 2⟩ ⟨some ⟨b22, 0, none⟩, 2, 2⟩ s24 h14 _ _ st (by simp) (by simp) ((st.own 0 rfl).rsn widePr)
  constructor
  · refine lit1 st fun b21 h10 st => ?_
    constructor
    · refine cloneE_rat st (fzc 2 st (fun B hB => List.mem_append_left _ hB) g2) (by omega) fun r20 h11 st => ?_
      refine cks st (fun B hB => List.mem_append_left _ hB) ?_
      refine lit2 st fun b22 h12 st => ?_
      refine st.nw fun b23 h13 st => ?_
      simp only [List.nil_append, List.cons_append] at st
      refine apd2 (v1 := (900, ⟨some ⟨b21, 0, none⟩, 2, 2⟩, ())) (v2 := (901, ⟨some ⟨b22, 0, none⟩, 2, 2⟩, ())) st 0 1 rfl rfl (by omega) fun s24 h14 st => ?_
      exact tail ⟨some ⟨b21, 0, none⟩, 2, 2⟩ ⟨some ⟨b22, 0, none⟩, 2, 2⟩ s24 h14 _ _ st (by simp) (by simp) ((st.own 0 rfl).rsn widePr)
    · refine lit2 st fun b22 h12 st => ?_
      have hs2 : ∀ B ∈ GG, B ∈ GG ++ [li [20, p] ⟨some ⟨b21, 0, none⟩, 2, 2⟩] ++ [li [-p, p] ⟨some ⟨b22, 0, none⟩, 2, 2⟩] := fun B hB => List.mem_append_left _ (List.mem_append_left _ hB)
      constructor
      · refine cloneE_rat st (fzc 2 st hs2 g2) (by omega) fun r20 h11 st => ?_
        refine cks st hs2 ?_
        refine st.nw fun b23 h13 st => ?_
        simp only [List.nil_append, List.cons_append] at st
        refine apd2 (v1 := (900, ⟨some ⟨b21, 0, none⟩, 2, 2⟩, ())) (v2 := (901, ⟨some ⟨b22, 0, none⟩, 2, 2⟩, ())) st 0 1 rfl rfl (by omega) fun s24 h14 st => ?_
        exact tail ⟨some ⟨b21, 0, none⟩, 2, 2⟩ ⟨some ⟨b22, 0, none⟩, 2, 2⟩ s24 h14 _ _ st (by simp) (by simp) ((st.own 0 rfl).rsn widePr)
      · refine st.nw fun b23 h13 st => ?_
        refine cloneE_rat st (fzc 2 st hs2 g2) (by omega) fun r20 h11 st => ?_
        refine cks st hs2 ?_
        simp only [List.nil_append, List.cons_append] at st
        refine apd2 (v1 := (900, ⟨some ⟨b21, 0, none⟩, 2, 2⟩, ())) (v2 := (901, ⟨some ⟨b22, 0, none⟩, 2, 2⟩, ())) st 1 0 rfl rfl (by omega) fun s24 h14 st => ?_
        exact tail ⟨some ⟨b21, 0, none⟩, 2, 2⟩ ⟨some ⟨b22, 0, none⟩, 2, 2⟩ s24 h14 _ _ st (by simp) (by simp) ((st.own 1 rfl).rsn widePr)
  · refine lit2 st fun b22 h10 st => ?_
    constructor
    · refine cloneE_rat st (fzc 2 st (fun B hB => List.mem_append_left _ hB) g2) (by omega) fun r20 h11 st => ?_
      refine cks st (fun B hB => List.mem_append_left _ hB) ?_
      refine lit1 st fun b21 h12 st => ?_
      refine st.nw fun b23 h13 st => ?_
      simp only [List.nil_append, List.cons_append] at st
      refine apd2 (v1 := (900, ⟨some ⟨b21, 0, none⟩, 2, 2⟩, ())) (v2 := (901, ⟨some ⟨b22, 0, none⟩, 2, 2⟩, ())) st 0 1 rfl rfl (by omega) fun s24 h14 st => ?_
      exact tail ⟨some ⟨b21, 0, none⟩, 2, 2⟩ ⟨some ⟨b22, 0, none⟩, 2, 2⟩ s24 h14 _ _ st (by simp) (by simp) ((st.own 0 rfl).rsn widePr)
    · refine lit1 st fun b21 h12 st => ?_
      have hs2 : ∀ B ∈ GG, B ∈ GG ++ [li [-p, p] ⟨some ⟨b22, 0, none⟩, 2, 2⟩] ++ [li [20, p] ⟨some ⟨b21, 0, none⟩, 2, 2⟩] := fun B hB => List.mem_append_left _ (List.mem_append_left _ hB)
      constructor
      · refine cloneE_rat st (fzc 2 st hs2 g2) (by omega) fun r20 h11 st => ?_
        refine cks st hs2 ?_
        refine st.nw fun b23 h13 st => ?_
        simp only [List.nil_append, List.cons_append] at st
        refine apd2 (v1 := (900, ⟨some ⟨b21, 0, none⟩, 2, 2⟩, ())) (v2 := (901, ⟨some ⟨b22, 0, none⟩, 2, 2⟩, ())) st 0 1 rfl rfl (by omega) fun s24 h14 st => ?_
        exact tail ⟨some ⟨b21, 0, none⟩, 2, 2⟩ ⟨some ⟨b22, 0, none⟩, 2, 2⟩ s24 h14 _ _ st (by simp) (by simp) ((st.own 0 rfl).rsn widePr)
      · refine st.nw fun b23 h13 st => ?_
        refine cloneE_rat st (fzc 2 st hs2 g2) (by omega) fun r20 h11 st => ?_
        refine cks st hs2 ?_
        simp only [List.nil_append, List.cons_append] at st
        refine apd2 (v1 := (900, ⟨some ⟨b21, 0, none⟩, 2, 2⟩, ())) (v2 := (901, ⟨some ⟨b22, 0, none⟩, 2, 2⟩, ())) st 1 0 rfl rfl (by omega) fun s24 h14 st => ?_
        exact tail ⟨some ⟨b21, 0, none⟩, 2, 2⟩ ⟨some ⟨b22, 0, none⟩, 2, 2⟩ s24 h14 _ _ st (by simp) (by simp) ((st.own 1 rfl).rsn widePr)

end Go.Proofs.S

set_option linter.unusedVariables false
namespace Go.Sx
open Go Go.ChangeShapes Go.WideShapes Go.ChangeAt Go.RowKit

section
variable {H : Type} {enc : TypeId × Value → H} {P : Program} {W : World}

def Reads (H : Type) (enc : TypeId × Value → H) (P : Program) (W : World) (t : TypeId) (cs : List Value) : Prop := ∃ fuel x, DataW.trod enc P W 0 (fun _ => true) true fuel t cs = some x

theorem reads_slice {t e : TypeId} {n : Nat} {cs : List Value} (ht : P.underlying t = some (.slice e)) (hc : P.cellsOf e = n) (h : Reads H enc P W t cs) :
    ∃ s : Sl, cs = [.slice s.a s.len s.cap] ∧ s.len ≤ s.cap ∧ (s.a = none → s.len = 0) ∧
      ∀ a, s.a = some a → ∀ i, i < s.len → ∃ cs', cs'.length = n ∧ (∀ j, j < n → cell W.heap (a.add (i * n + j)) = cs'[j]?) ∧ Reads H enc P W e cs' := by
  obtain ⟨fuel, x, h⟩ := h
  rcases Go.Deep.open_slice ht h with ⟨rfl, _⟩ | ⟨a, len, cap, m, k, D, Pl, rfl, _, hl, _, hm, _, hx⟩
  · exact ⟨⟨none, 0, 0⟩, rfl, Nat.le_refl _, fun _ => rfl, fun a e => by cases e⟩
  · refine ⟨⟨some a, len, cap⟩, rfl, hl, fun e => (by cases e), fun a' e i hi => ?_⟩
    cases e
    simp only [if_true] at hm
    subst hm
    simp only at hi
    obtain ⟨cs', h1, h2⟩ := hx i (by omega)
    rw [hc] at h1
    obtain ⟨_, hlen, hcell⟩ := World.cells?_some h1
    refine ⟨cs', hlen, fun j hj => ?_, k, _, h2⟩
    have := hcell j hj
    rw [← addr_add_add]; exact this

theorem reads_int {t : TypeId} {k : IntKind} {cs : List Value} (ht : P.underlying t = some (.int k)) (h : Reads H enc P W t cs) : ∃ n, cs = [.int k n] ∧ (Lit.int k n).wf = true := by
  obtain ⟨fuel, x, h⟩ := h
  obtain ⟨n, e, _, w⟩ := DataW.trod_int ht h
  exact ⟨n, e, w⟩
theorem cell_isCells {h : Heap} {a : Addr} {v : Value} (hc : cell h a = some v) : isCells h a.block := by
  unfold cell at hc
  split at hc
  · rename_i c t f hb; exact .inl ⟨c, t, f, hb⟩
  · cases hc
theorem add_block (a : Addr) (i : Nat) : (a.add i).block = a.block := by unfold Addr.add; split <;> rfl

theorem pick_list {α : Type} : ∀ {n : Nat} {Q : Nat → α → Prop}, (∀ i, i < n → ∃ x, Q i x) → ∃ xs : List α, xs.length = n ∧ ∀ i x, xs[i]? = some x → Q i x
  | 0, Q, _ => ⟨[], rfl, fun i x h => by simp at h⟩
  | n + 1, Q, h => by
    obtain ⟨xs, hl, hx⟩ := pick_list (n := n) (Q := Q) fun i hi => h i (by omega)
    obtain ⟨y, hy⟩ := h n (by omega)
    refine ⟨xs ++ [y], by simp [hl], fun i x hi => ?_⟩
    rcases Nat.lt_trichotomy i n with q | q | q
    · rw [List.getElem?_append_left (by omega)] at hi; exact hx i x hi
    · subst q
      rw [List.getElem?_append_right (by omega), hl] at hi
      simp at hi; subst hi; exact hy
    · rw [List.getElem?_eq_none (by simp; omega)] at hi; cases hi

theorem rsn_of_reads {α : Type} {t e : TypeId} {n : Nat} {enc' : α → List Value} {Q : α → Prop} {cs : List Value} (ht : P.underlying t = some (.slice e)) (hc : P.cellsOf e = n) (hn : 0 < n)
    (hel : ∀ cs', Reads H enc P W e cs' → ∃ x : α, cs' = enc' x ∧ Q x) (h : Reads H enc P W t cs) :
    ∃ (s : Sl) (xs : List α), cs = [.slice s.a s.len s.cap] ∧ At W.heap (rsn n enc' xs s) ∧ ∀ x ∈ xs, Q x := by
  obtain ⟨s, rfl, hl, h0, hx⟩ := reads_slice ht hc h
  cases ha : s.a with
  | none =>
    refine ⟨s, [], by rw [ha], ⟨[], by simpa using h0 ha, hl, .inl ⟨rfl, rfl⟩⟩, by simp⟩
  | some a =>
    obtain ⟨xs, hxl, hxs⟩ := pick_list (n := s.len) (Q := fun i x => (∀ j, j < n → cell W.heap (a.add (i * n + j)) = (enc' x)[j]?) ∧ Q x ∧ (enc' x).length = n) fun i hi => by
      obtain ⟨cs', h1, h2, h3⟩ := hx a ha i hi
      obtain ⟨x, rfl, hq⟩ := hel cs' h3
      exact ⟨x, h2, hq, h1⟩
    refine ⟨s, xs, by rw [ha], ?_, fun x hx => ?_⟩
    · by_cases hz : xs = []
      · subst hz
        exact ⟨[], hxl.symm, hl, .inl ⟨rfl, rfl⟩⟩
      · have h1 : ∃ x, xs[0]? = some x := by cases xs with | nil => exact absurd rfl hz | cons x _ => exact ⟨x, rfl⟩
        obtain ⟨x, h1⟩ := h1
        obtain ⟨g1, _, g3⟩ := hxs 0 x h1
        have g := g1 0 hn
        rw [List.getElem?_eq_getElem (by omega)] at g
        have hC := cell_isCells g
        rw [add_block] at hC
        refine ⟨[a.block], hxl.symm, hl, .inr ⟨a, ha, rfl, hC, fun i y hy j v hv => ?_⟩⟩
        obtain ⟨k1, _, k3⟩ := hxs i y hy
        rw [k1 j (by have := (List.getElem?_eq_some_iff.1 hv).1; omega), hv]
    · obtain ⟨i, hi, e⟩ := List.mem_iff_getElem.1 hx
      exact (hxs i x (by rw [List.getElem?_eq_getElem hi, e])).2.1

theorem rsl_of_reads {α : Type} {t e : TypeId} {enc' : α → Value} {Q : α → Prop} {cs : List Value} (ht : P.underlying t = some (.slice e)) (hc : P.cellsOf e = 1)
    (hel : ∀ cs', Reads H enc P W e cs' → ∃ x : α, cs' = [enc' x] ∧ Q x) (h : Reads H enc P W t cs) :
    ∃ (s : Sl) (xs : List α), cs = [.slice s.a s.len s.cap] ∧ At W.heap (rsl enc' xs s) ∧ ∀ x ∈ xs, Q x := by
  obtain ⟨s, xs, e1, ⟨S, h1, h2, h3⟩, h4⟩ := rsn_of_reads (enc' := fun x => [enc' x]) (Q := Q) ht hc (by decide) hel h
  refine ⟨s, xs, e1, ⟨S, h1, h2, h3.imp id fun ⟨a, ea, eS, hC, hx⟩ => ⟨a, ea, eS, hC, fun i x hi => ?_⟩⟩, h4⟩
  have := hx i x hi 0 (enc' x) rfl
  simpa using this

theorem rsl_of_int {t e : TypeId} {k : IntKind} {cs : List Value} (ht : P.underlying t = some (.slice e)) (he : P.underlying e = some (.int k)) (hc : P.cellsOf e = 1) (h : Reads H enc P W t cs) :
    ∃ (s : Sl) (xs : List Int), cs = [.slice s.a s.len s.cap] ∧ At W.heap (rsl (Ty.int k).enc xs s) ∧ ∀ x ∈ xs, (Lit.int k x).wf = true :=
  rsl_of_reads (enc' := (Ty.int k).enc) ht hc (fun cs' h' => reads_int he h') h

theorem rsg_of_reads {β : Type} {t e : TypeId} {I : β → Sl → Asn} {Q : β → Prop} {cs : List Value} (ht : P.underlying t = some (.slice e)) (hc : P.cellsOf e = 1)
    (hel : ∀ cs', Reads H enc P W e cs' → ∃ (s : Sl) (x : β), cs' = [.slice s.a s.len s.cap] ∧ At W.heap (I x s) ∧ Q x) (h : Reads H enc P W t cs) :
    ∃ (s : Sl) (xs : List β), cs = [.slice s.a s.len s.cap] ∧ At W.heap (rsg I xs s) ∧ ∀ x ∈ xs, Q x := by
  obtain ⟨s, ps, e1, hA, hq⟩ := rsl_of_reads (α := Sl) (enc' := Ty.sl.enc) (Q := fun p => ∃ x, At W.heap (I x p) ∧ Q x) ht hc (fun cs' h' => by
    obtain ⟨p, x, e2, h2, h3⟩ := hel cs' h'
    exact ⟨p, e2, x, h2, h3⟩) h
  obtain ⟨xs, hxl, hx⟩ := pick_list (n := ps.length) (Q := fun i x => ∀ hi : i < ps.length, At W.heap (I x ps[i]) ∧ Q x) fun i hi => by
    obtain ⟨x, h1⟩ := hq ps[i] (List.getElem_mem hi)
    exact ⟨x, fun _ => h1⟩
  refine ⟨s, xs, e1, rsg_at hxl.symm hA fun i h1 h2 => (hx i _ (List.getElem?_eq_getElem h1) h2).1, fun x hx' => ?_⟩
  obtain ⟨i, hi, e⟩ := List.mem_iff_getElem.1 hx'
  exact (hx i x (by rw [List.getElem?_eq_getElem hi, e]) (by omega)).2

theorem reads_arg_sl {t e : TypeId} {base : Nat} {v : Value} {d : DataW H} {p : List MemPlace} (ht : P.underlying t = some (.slice e)) (hval : Value.okWide P W .any base t v)
    (h : DataW.Trod enc P W 0 (fun _ => true) true t v d p) : ∃ s : Sl, v = .slice s.a s.len s.cap ∧ Reads H enc P W t [.slice s.a s.len s.cap] := by
  obtain ⟨a0, len, cap, rfl⟩ := okWide_slice ht hval
  obtain ⟨fuel, hf⟩ := h
  exact ⟨⟨a0, len, cap⟩, rfl, fuel, _, by simpa [Value.cells] using hf⟩

theorem arg_ints {t e : TypeId} {k : IntKind} {base : Nat} {v : Value} {d : DataW H} {p : List MemPlace} (ht : P.underlying t = some (.slice e)) (he : P.underlying e = some (.int k)) (hc : P.cellsOf e = 1)
    (hval : Value.okWide P W .any base t v) (h : DataW.Trod enc P W 0 (fun _ => true) true t v d p) : ∃ (s : Sl) (zs : List Int), v = .slice s.a s.len s.cap ∧ At W.heap (rsl (Ty.int k).enc zs s) ∧ ∀ z ∈ zs, (Lit.int k z).wf = true := by
  obtain ⟨s, rfl, hr⟩ := reads_arg_sl ht hval h
  obtain ⟨s', zs, e, hA, hw⟩ := rsl_of_int ht he hc hr
  simp only [List.cons.injEq, Value.slice.injEq, and_true] at e
  obtain ⟨e1, e2, e3⟩ := e
  have es : s' = s := by cases s; cases s'; simp_all
  subst es
  exact ⟨s', zs, rfl, hA, hw⟩
end
end Go.Sx

set_option linter.unusedVariables false
namespace Go.Proofs.YtjkgncibelojnaaGreat
open Go Go.Sx Go.ChangeShapes Go.WideShapes Go.ChangeAt Go.RowKit Go.Proofs

theorem own_ : ownKnob Tryz.prog.godebug = none := by kernel_rfl
theorem cells82 : Tryz.prog.cellsOf 82 = 1 := by kernel_rfl
theorem cells23 : Tryz.prog.cellsOf 23 = 1 := by kernel_rfl
theorem laidOut_ : laidOutB Tryz.prog = true := by kernel_rfl

variable {H : Type} {enc : TypeId × Value → H} {W : World} {base : Nat} {v : Value} {d : DataW H} {p : List MemPlace}

theorem lists_of {P : Program} {t e e2 : TypeId} {k : IntKind} (ht : P.underlying t = some (.slice e)) (hc : P.cellsOf e = 1) (hte : P.underlying e = some (.slice e2)) (he : P.underlying e2 = some (.int k)) (hc2 : P.cellsOf e2 = 1)
    (hval : Value.okWide P W .any base t v) (h : DataW.Trod enc P W 0 (fun _ => true) true t v d p) : ∃ (s : Sl) (zs : List (List Int)), v = .slice s.a s.len s.cap ∧ At W.heap (rsg (fun c p => rsl (Ty.int k).enc c p) zs s) ∧ ∀ z ∈ zs, ∀ x ∈ z, (Lit.int k x).wf = true := by
  obtain ⟨s, rfl, hr⟩ := reads_arg_sl ht hval h
  obtain ⟨s', zs, e, hA, hw⟩ := rsg_of_reads (I := fun c p => rsl (Ty.int k).enc c p) (Q := fun z => ∀ x ∈ z, (Lit.int k x).wf = true) ht hc (fun cs' h' => rsl_of_int hte he hc2 h') hr
  simp only [List.cons.injEq, Value.slice.injEq, and_true] at e
  obtain ⟨e1, e2, e3⟩ := e
  have es : s' = s := by cases s; cases s'; simp_all
  subst es
  exact ⟨s', zs, rfl, hA, hw⟩
set_option maxRecDepth 100000 in
theorem sl_i8 (hval : Value.okWide Tryz.prog W .any base 23 v) (h : DataW.Trod enc Tryz.prog W 0 (fun _ => true) true 23 v d p) :
    ∃ (s : Sl) (zs : List Int), v = .slice s.a s.len s.cap ∧ At W.heap (rsl (Ty.int .i8).enc zs s) ∧ ∀ z ∈ zs, (Lit.int .i8 z).wf = true :=
  arg_ints Tryz.underlying23 Tryz.underlying82 cells82 hval h
set_option maxRecDepth 100000 in
theorem ll_i8 (hval : Value.okWide Tryz.prog W .any base 22 v) (h : DataW.Trod enc Tryz.prog W 0 (fun _ => true) true 22 v d p) :
    ∃ (s : Sl) (zs : List (List Int)), v = .slice s.a s.len s.cap ∧ At W.heap (rsg (fun c p => rsl (Ty.int .i8).enc c p) zs s) ∧ ∀ z ∈ zs, ∀ x ∈ z, (Lit.int .i8 x).wf = true :=
  lists_of Tryz.underlying22 cells23 Tryz.underlying23 Tryz.underlying82 cells82 hval h
end Go.Proofs.YtjkgncibelojnaaGreat
