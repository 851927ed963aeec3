/-
  salvorlaw05.tells: the formula and the model, read by the program and by the reference, in whatever order (printed by gen/mkftl2.py).
-/
import Derived.Test.YtmlamkoilggonaaGreatFoTl
set_option linter.unusedVariables false
set_option linter.unusedSimpArgs false
namespace Go.Proofs.S
open Go Go.Sx Go.Proofs Go.Cl

variable {h : Heap} {s : Sl} {fr : Fr} {G As : List Asn} {m : List Bool} {sm : Sl} {cs : List (List Int)} {n : Int}

theorem tells_c (hA : At h (lli cs s)) (hm : At h (lb m sm)) (hl : cs.length ≤ 1048576) (hc : ∀ c ∈ cs, c.length ≤ 1048576) (hml : m.length ≤ 1048576) (l : Int) :
    callT Tryz.prog fn_salvorlaw05_tells #[.agg #[.int .i64 n, .slice s.a s.len s.cap], .slice sm.a sm.len sm.cap, .int .i64 l] .bool (fun r h' => r = true ∧ Ext [] h h') h := by
  refine callT_gen fun K hK => S_salvorlaw05_tells (a0 := (n, s, ())) (a1 := sm) (a2 := l) K ?_
  unfold F_salvorlaw05_tells
  have hK' : ∀ h', Ext [] h h' → K true h' := fun h' x => hK true h' ⟨rfl, x⟩
  have st := Hs.start h [lli cs s, lb m sm] (by simp [hA, hm])
  refine st.nw fun bF h1 st => ?_
  have st := (st.freeze 0 rfl).less (G' := [cl bF ty_formula_Formula [.int .i64 n, .slice s.a s.len s.cap], lli cs s, lb m sm]) (fun A hA => by
    simp only [List.mem_cons, List.not_mem_nil, or_false] at hA
    rcases hA with rfl | rfl | rfl <;> simp)
  simp only [List.nil_append, List.eraseIdx_cons_zero] at st
  refine ldF (s := s) (st.fblk 0 rfl) ?_
  refine ldF (s := s) (st.fblk 0 rfl) ?_
  have mkC : ∀ {G As : List Asn} {h1 : Heap} {K : (Int × (Sl × Unit)) → HP}, Hs [([], h)] (cl bF ty_formula_Formula [.int .i64 n, .slice s.a s.len s.cap] :: lli cs s :: lb m sm :: G) As h1 → (∀ r h2, Hs [([], h)] (cl bF ty_formula_Formula [.int .i64 n, .slice s.a s.len s.cap] :: lli cs s :: lb m sm :: (G ++ [llo cs r])) As h2 → K (n, r, ()) h2) →
      callT Tryz.prog fn_formula_Copy #[(.agg #[(.int .i64 n), (.slice s.a s.len s.cap)])] (.agg (.cons (.int .i64) (.cons .sl .nil))) K h1 := fun {G As h1 K} st hK => by
    refine call_of (copy_c (n := n) (st.fz 1 rfl) hl hc) ?_
    rintro _ h2 ⟨r, rfl, n2, x⟩
    have st := (st.new x n2).freeze As.length (A := llo cs r) (by simp)
    rw [List.eraseIdx_append_of_length_le (Nat.le_refl _), Nat.sub_self] at st
    exact hK r h2 (by simpa using st)
  have mkT : ∀ {G As : List Asn} {h1 : Heap} {K : (Int × (Sl × Unit)) → HP}, Hs [([], h)] (cl bF ty_formula_Formula [.int .i64 n, .slice s.a s.len s.cap] :: lli cs s :: lb m sm :: G) As h1 → (∀ r h2, Hs [([], h)] (cl bF ty_formula_Formula [.int .i64 n, .slice s.a s.len s.cap] :: lli cs s :: lb m sm :: (G ++ [oii cs r])) As h2 → K (n, r, ()) h2) →
      callT Tryz.prog fn_salvorlaw05_Theirs #[(.agg #[(.int .i64 n), (.slice s.a s.len s.cap)])] (.agg (.cons (.int .i64) (.cons .sl .nil))) K h1 := fun {G As h1 K} st hK => by
    refine call_of (theirs_c (n := n) (st.fz 1 rfl) hl hc) ?_
    rintro _ h2 ⟨r, rfl, n2, x⟩
    have st := (st.new x n2).freeze As.length (A := oii cs r) (by simp)
    rw [List.eraseIdx_append_of_length_le (Nat.le_refl _), Nat.sub_self] at st
    exact hK r h2 (by simpa using st)
  have mkB : ∀ {G As : List Asn} {h1 : Heap} {K : Sl → HP}, Hs [([], h)] (cl bF ty_formula_Formula [.int .i64 n, .slice s.a s.len s.cap] :: lli cs s :: lb m sm :: G) As h1 → (∀ r h2, Hs [([], h)] (cl bF ty_formula_Formula [.int .i64 n, .slice s.a s.len s.cap] :: lli cs s :: lb m sm :: (G ++ [io (bitsL m) r])) As h2 → K r h2) →
      callT Tryz.prog fn_salvorlaw05_Bits #[(.slice sm.a sm.len sm.cap)] .sl K h1 := fun {G As h1 K} st hK => by
    refine call_of (bits_c (st.fz 2 rfl) hml) ?_
    rintro r h2 ⟨n2, x⟩
    have st := (st.new x n2).freeze As.length (A := io (bitsL m) r) (by simp)
    rw [List.eraseIdx_append_of_length_le (Nat.le_refl _), Nat.sub_self] at st
    exact hK r h2 (by simpa using st)
  have tlEnd : ∀ {G As : List Asn} {h1 : Heap} {bO bR : Nat} {rC rT rB : Sl}, Hs [([], h)] (cl bF ty_formula_Formula [.int .i64 n, .slice s.a s.len s.cap] :: lli cs s :: lb m sm :: G) As h1 → ∀ kO kR : Nat, As[kO]? = some (cl bO ty_formula_Formula [.int .i64 0, .slice none 0 0]) → As[kR]? = some (cl bR ty_salvorref05_Formula [.int .i64 0, .slice none 0 0]) → kO ≠ kR →
      llo cs rC ∈ G → oii cs rT ∈ G → io (bitsL m) rB ∈ G →
      (st1 (⟨bO, 0, none⟩ : Addr) (.int .i64 n) <| st1 ((⟨bO, 0, none⟩ : Addr).add 1) (.slice rC.a rC.len rC.cap) <| st1 (⟨bR, 0, none⟩ : Addr) (.int .i64 n) <| st1 ((⟨bR, 0, none⟩ : Addr).add 1) (.slice rT.a rT.len rT.cap) <| TlTl bF bO bR rB sm l K) h1 := by
    intro G As h1 bO bR rC rT rB st kO kR hO hR hne mC mT mB
    have lO := (List.getElem?_eq_some_iff.1 hO).1
    have lR := (List.getElem?_eq_some_iff.1 hR).1
    refine st.st1 kO 0 hO (by simp) fun h2 st => ?_
    rw [addr_add]
    refine st.st1 kO 1 (by simp [lO]; rfl) (by simp) fun h3 st => ?_
    refine st.st1 kR 0 (c := [.int .i64 0, .slice none 0 0]) (b := bR) (t := ty_salvorref05_Formula) (by simp [List.getElem?_set, hne, lO, hR]) (by simp) fun h4 st => ?_
    rw [addr_add]
    refine st.st1 kR 1 (c := [.int .i64 n, .slice none 0 0]) (b := bR) (t := ty_salvorref05_Formula) (by simp [List.getElem?_set, hne, lO, lR, hR]) (by simp) fun h5 st => ?_
    have kO5 : Blk h5 bO ty_formula_Formula [.int .i64 n, .slice rC.a rC.len rC.cap] := st.blk kO (by simp [List.getElem?_set, hne.symm, lO, lR, hO])
    have kR5 : Blk h5 bR ty_salvorref05_Formula [.int .i64 n, .slice rT.a rT.len rT.cap] := st.blk kR (by simp [List.getElem?_set, hne, lO, lR, hR])
    exact TlTl_c (st.fblk 0 rfl) kO5 kR5 (st.fz 1 rfl) (llo_at (st.fzm (by simp [mC]))) (oii_at (st.fzm (by simp [mT]))) (st.fz 2 rfl) (At.rsl (st.fzm (A := io (bitsL m) rB) (by simp [mB]))) hl hc hml fun h' x => hK' h' ((st.frame (by simp)).nil_trans x)
  refine ⟨?_, ?_⟩
  · refine mkC st fun rC h1 st => ?_
    refine ckF (st.fblk 0 rfl) ?_
    refine ⟨?_, ?_⟩
    · refine mkT st fun rT h2 st => ?_
      refine ⟨?_, ?_⟩
      · refine mkB st fun rB h3 st => ?_
        refine ⟨?_, ?_⟩
        · refine st.nw fun bO h4 st => ?_
          simp only [List.nil_append, List.cons_append] at st
          refine st.nw fun bR h5 st => ?_
          simp only [List.nil_append, List.cons_append] at st
          exact tlEnd st 0 1 rfl rfl (by decide) (by simp) (by simp) (by simp)
        · refine st.nw fun bR h6 st => ?_
          simp only [List.nil_append, List.cons_append] at st
          refine st.nw fun bO h7 st => ?_
          simp only [List.nil_append, List.cons_append] at st
          exact tlEnd st 1 0 rfl rfl (by decide) (by simp) (by simp) (by simp)
      · refine ⟨?_, ?_⟩
        · refine st.nw fun bO h8 st => ?_
          simp only [List.nil_append, List.cons_append] at st
          refine ⟨?_, ?_⟩
          · refine mkB st fun rB h9 st => ?_
            refine st.nw fun bR h10 st => ?_
            simp only [List.nil_append, List.cons_append] at st
            exact tlEnd st 0 1 rfl rfl (by decide) (by simp) (by simp) (by simp)
          · refine st.nw fun bR h11 st => ?_
            simp only [List.nil_append, List.cons_append] at st
            refine mkB st fun rB h12 st => ?_
            exact tlEnd st 0 1 rfl rfl (by decide) (by simp) (by simp) (by simp)
        · refine st.nw fun bR h13 st => ?_
          simp only [List.nil_append, List.cons_append] at st
          refine ⟨?_, ?_⟩
          · refine mkB st fun rB h14 st => ?_
            refine st.nw fun bO h15 st => ?_
            simp only [List.nil_append, List.cons_append] at st
            exact tlEnd st 1 0 rfl rfl (by decide) (by simp) (by simp) (by simp)
          · refine st.nw fun bO h16 st => ?_
            simp only [List.nil_append, List.cons_append] at st
            refine mkB st fun rB h17 st => ?_
            exact tlEnd st 1 0 rfl rfl (by decide) (by simp) (by simp) (by simp)
    · refine ⟨?_, ?_⟩
      · refine st.nw fun bO h18 st => ?_
        simp only [List.nil_append, List.cons_append] at st
        refine ⟨?_, ?_⟩
        · refine mkT st fun rT h19 st => ?_
          refine ⟨?_, ?_⟩
          · refine mkB st fun rB h20 st => ?_
            refine st.nw fun bR h21 st => ?_
            simp only [List.nil_append, List.cons_append] at st
            exact tlEnd st 0 1 rfl rfl (by decide) (by simp) (by simp) (by simp)
          · refine st.nw fun bR h22 st => ?_
            simp only [List.nil_append, List.cons_append] at st
            refine mkB st fun rB h23 st => ?_
            exact tlEnd st 0 1 rfl rfl (by decide) (by simp) (by simp) (by simp)
        · refine st.nw fun bR h24 st => ?_
          simp only [List.nil_append, List.cons_append] at st
          refine mkT st fun rT h25 st => ?_
          refine mkB st fun rB h26 st => ?_
          exact tlEnd st 0 1 rfl rfl (by decide) (by simp) (by simp) (by simp)
      · refine st.nw fun bR h27 st => ?_
        simp only [List.nil_append, List.cons_append] at st
        refine ⟨?_, ?_⟩
        · refine mkT st fun rT h28 st => ?_
          refine ⟨?_, ?_⟩
          · refine mkB st fun rB h29 st => ?_
            refine st.nw fun bO h30 st => ?_
            simp only [List.nil_append, List.cons_append] at st
            exact tlEnd st 1 0 rfl rfl (by decide) (by simp) (by simp) (by simp)
          · refine st.nw fun bO h31 st => ?_
            simp only [List.nil_append, List.cons_append] at st
            refine mkB st fun rB h32 st => ?_
            exact tlEnd st 1 0 rfl rfl (by decide) (by simp) (by simp) (by simp)
        · refine st.nw fun bO h33 st => ?_
          simp only [List.nil_append, List.cons_append] at st
          refine mkT st fun rT h34 st => ?_
          refine mkB st fun rB h35 st => ?_
          exact tlEnd st 1 0 rfl rfl (by decide) (by simp) (by simp) (by simp)
  · refine ⟨?_, ?_⟩
    · refine st.nw fun bO h36 st => ?_
      simp only [List.nil_append, List.cons_append] at st
      refine ⟨?_, ?_⟩
      · refine mkC st fun rC h37 st => ?_
        refine ckF (st.fblk 0 rfl) ?_
        refine ⟨?_, ?_⟩
        · refine mkT st fun rT h38 st => ?_
          refine ⟨?_, ?_⟩
          · refine mkB st fun rB h39 st => ?_
            refine st.nw fun bR h40 st => ?_
            simp only [List.nil_append, List.cons_append] at st
            exact tlEnd st 0 1 rfl rfl (by decide) (by simp) (by simp) (by simp)
          · refine st.nw fun bR h41 st => ?_
            simp only [List.nil_append, List.cons_append] at st
            refine mkB st fun rB h42 st => ?_
            exact tlEnd st 0 1 rfl rfl (by decide) (by simp) (by simp) (by simp)
        · refine st.nw fun bR h43 st => ?_
          simp only [List.nil_append, List.cons_append] at st
          refine mkT st fun rT h44 st => ?_
          refine mkB st fun rB h45 st => ?_
          exact tlEnd st 0 1 rfl rfl (by decide) (by simp) (by simp) (by simp)
      · refine st.nw fun bR h46 st => ?_
        simp only [List.nil_append, List.cons_append] at st
        refine mkC st fun rC h47 st => ?_
        refine ckF (st.fblk 0 rfl) ?_
        refine mkT st fun rT h48 st => ?_
        refine mkB st fun rB h49 st => ?_
        exact tlEnd st 0 1 rfl rfl (by decide) (by simp) (by simp) (by simp)
    · refine st.nw fun bR h50 st => ?_
      simp only [List.nil_append, List.cons_append] at st
      refine ⟨?_, ?_⟩
      · refine mkC st fun rC h51 st => ?_
        refine ckF (st.fblk 0 rfl) ?_
        refine ⟨?_, ?_⟩
        · refine mkT st fun rT h52 st => ?_
          refine ⟨?_, ?_⟩
          · refine mkB st fun rB h53 st => ?_
            refine st.nw fun bO h54 st => ?_
            simp only [List.nil_append, List.cons_append] at st
            exact tlEnd st 1 0 rfl rfl (by decide) (by simp) (by simp) (by simp)
          · refine st.nw fun bO h55 st => ?_
            simp only [List.nil_append, List.cons_append] at st
            refine mkB st fun rB h56 st => ?_
            exact tlEnd st 1 0 rfl rfl (by decide) (by simp) (by simp) (by simp)
        · refine st.nw fun bO h57 st => ?_
          simp only [List.nil_append, List.cons_append] at st
          refine mkT st fun rT h58 st => ?_
          refine mkB st fun rB h59 st => ?_
          exact tlEnd st 1 0 rfl rfl (by decide) (by simp) (by simp) (by simp)
      · refine st.nw fun bO h60 st => ?_
        simp only [List.nil_append, List.cons_append] at st
        refine mkC st fun rC h61 st => ?_
        refine ckF (st.fblk 0 rfl) ?_
        refine mkT st fun rT h62 st => ?_
        refine mkB st fun rB h63 st => ?_
        exact tlEnd st 1 0 rfl rfl (by decide) (by simp) (by simp) (by simp)

end Go.Proofs.S

/-
  FormulaTells, walked.
-/
set_option linter.unusedVariables false
set_option linter.unusedSimpArgs false
namespace Go.Proofs.S
open Go Go.Sx Go.Proofs Go.Cl

variable {h : Heap} {s : Sl} {fr : Fr} {G As : List Asn} {m : List Bool} {sm : Sl} {cs : List (List Int)} {n : Int}

theorem few_c (hA : At h (lli cs s)) : callT Tryz.prog fn_salvorlaw05_few #[.agg #[.int .i64 n, .slice s.a s.len s.cap]] .bool (fun r h' => Ext [] h h') h := by
  refine callT_gen fun K hK => S_salvorlaw05_few (a0 := (n, s, ())) K ?_
  unfold F_salvorlaw05_few
  have st := Hs.start h [lli cs s] (by simp [hA])
  have l1 := rsg_len hA
  have l2 := rsgcap hA
  refine st.nw fun b0 h1 st => ?_
  simp only [List.nil_append] at st
  rw [addr_add, st.lds 0 1 rfl rfl, st.lds 0 1 rfl rfl]
  have em : (if (101 : Int) < (s.len : Int) then (101 : Int) else (s.len : Int)) = ((min cs.length 101 : Nat) : Int) := by split <;> omega
  rw [em]
  refine ⟨Int.natCast_nonneg _, Int.ofNat_le.2 (show min cs.length 101 ≤ s.cap by omega), ?_⟩
  rw [Int.toNat_natCast]
  have hT := rsgtake (st.fz 0 rfl) (n := min cs.length 101) (by omega)
  have lT : (slR ⟨s.a, s.len, s.cap⟩ 0 (min cs.length 101) 1).len = _ := rsg_len hT
  have xf := st.frame (h0 := h) (by simp)
  refine lfp_invh (I := fun μ σ h' => ∃ (i : Nat) (u : Int), σ = ((i : Int), u, ()) ∧ i ≤ (cs.take (min cs.length 101)).length ∧ h' = h1 ∧ μ = (cs.take (min cs.length 101)).length - i) ⟨_, 0, 0, rfl, by omega, rfl, rfl⟩ ?_
  rintro μ σ h' X ⟨i, u, rfl, hi, rfl, em2⟩ hX
  simp only
  by_cases hlt : i < (cs.take (min cs.length 101)).length
  · refine brT (decide_eq_true (by omega)) ?_
    refine rdG hT hlt fun p hp => ?_
    rw [inc_i (by simp at hlt; omega)]
    exact hX _ _ _ ⟨i + 1, _, rfl, by omega, rfl, rfl⟩ (by omega)
  · refine brF (decide_eq_false (by omega)) ?_
    rw [st.lds 0 1 rfl rfl]
    refine jn_in fun J hJ => ?_
    by_cases q : decide ((s.len : Int) ≤ 100) = true
    · exact brT q (hJ _ _ (hK _ _ xf))
    · exact brF (by simpa using q) (hJ _ _ (hK _ _ xf))

theorem formulaTells_F (hA : At h (lli cs s)) (hm : At h (lb m sm)) (hl : cs.length ≤ 1048576) (hc : ∀ c ∈ cs, c.length ≤ 1048576) (l : Int) (K : Bool → HP) (hK : ∀ x h', (x = true ∧ Ext [] h h') → K x h') : F_salvorlaw05_FormulaTells (n, s, ()) sm l K h := by
  unfold F_salvorlaw05_FormulaTells
  have st := Hs.start h [lli cs s, lb m sm] (by simp [hA, hm])
  have lm := rsl_len hm
  refine st.nw fun b0 h1 st => ?_
  simp only [List.nil_append] at st
  refine ldF (s := s) (st.blk 0 rfl) ?_
  refine call_of (few_c (n := n) (st.fz 0 rfl)) ?_
  rintro r2 h2 x2
  have st := st.ext x2
  have fin : ∀ (J : Bool → HP) h', (∀ t h2, (jn (σ := Bool) (fun t8 => K t8) (fun J7 => brB t (callT Tryz.prog fn_salvorlaw05_awake #[] .bool fun r9 => J7 r9) (J7 false))) h2 → J t h2) → Ext [] h h' → J true h' := fun J h' hJ x => hJ _ _ (by
    refine jn_in fun J7 hJ7 => brT rfl ?_
    refine call_of fawake_c ?_
    rintro _ h3 ⟨rfl, x3⟩
    exact hJ7 _ _ (hK _ _ ⟨rfl, x.nil_trans x3⟩))
  refine jn_in fun J3 hJ3 => ?_
  have go : ∀ t h', h' = h2 → (t = false → m.length ≤ 300) → J3 t h' := by
    rintro t h' rfl ht
    refine hJ3 _ _ (jn_in fun J5 hJ5 => ?_)
    cases t with
    | true => exact brT rfl (fin J5 _ hJ5 (st.frame (by simp)))
    | false =>
      refine brF rfl ?_
      refine ldF (s := s) (st.blk 0 rfl) ?_
      refine call_of (tells_c (n := n) (st.fz 0 rfl) (st.fz 1 rfl) hl hc (by have := ht rfl; omega) l) ?_
      rintro _ h3 ⟨rfl, x3⟩
      exact fin J5 _ hJ5 ((st.ext x3).frame (by simp))
  cases r2 with
  | false => exact brT rfl (go true _ rfl fun e => by cases e)
  | true =>
    refine brF rfl (go _ _ rfl fun e => ?_)
    have e := of_decide_eq_false e
    omega

end Go.Proofs.S
