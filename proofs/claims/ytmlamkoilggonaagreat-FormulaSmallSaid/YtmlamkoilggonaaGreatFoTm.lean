/-
  salvorlaw05.tells: the formula and the model, read by the program and by the reference, in whatever order (printed by gen/mkftl2.py).
-/
import Derived.Test.YtmlamkoilggonaaGreatFoTl
import Derived.Test.YtmlamkoilggonaaGreatSxNa
import Derived.Test.YtmlamkoilggonaaGreatClO
import Derived.Test.YtmlamkoilggonaaGreatCrP
set_option linter.unusedVariables false
set_option linter.unusedSimpArgs false
namespace Go.Proofs.S
open Go Go.Sx Go.Proofs Go.Cl

variable {h : Heap} {s : Sl} {fr : Fr} {G As : List Asn} {m : List Bool} {sm : Sl} {cs : List (List Int)} {n : Int}

theorem tells_c (hA : At h (lli cs s)) (hm : At h (lb m sm)) (hl : cs.length ≤ 1048576) (hc : ∀ c ∈ cs, c.length ≤ 1048576) (hml : m.length ≤ 1048576) (l : Int) :
    callT Tryz.prog fn_salvorlaw05_tells #[.agg #[.int .i64 n, .slice s.a s.len s.cap], .slice sm.a sm.len sm.cap, .int .i64 l] .bool (fun r h' => r = true ∧ Ext [] h h') h := by
  refine callT_gen fun K hK => S_salvorlaw05_tells (a0 := (n, s, ())) (a1 := sm) (a2 := l) K ?_
  unfold F_salvorlaw05_tells
  have hK' : ∀ h', Ext [] h h' → K true h' := fun h' x => hK true h' ⟨rfl, x⟩
  have st := Hs.start h [lli cs s, lb m sm] (by simp [hA, hm])
  refine st.nw fun bF h1 st => ?_
  have st := (st.freeze 0 rfl).less (G' := [cl bF ty_formula_Formula [.int .i64 n, .slice s.a s.len s.cap], lli cs s, lb m sm]) (fun A hA => by
    simp only [List.mem_cons, List.not_mem_nil, or_false] at hA
    rcases hA with rfl | rfl | rfl <;> simp)
  simp only [List.nil_append, List.eraseIdx_cons_zero] at st
  refine ldF (s := s) (st.fblk 0 rfl) ?_
  refine ldF (s := s) (st.fblk 0 rfl) ?_
  have mkC : ∀ {G As : List Asn} {h1 : Heap} {K : (Int × (Sl × Unit)) → HP}, Hs [([], h)] (cl bF ty_formula_Formula [.int .i64 n, .slice s.a s.len s.cap] :: lli cs s :: lb m sm :: G) As h1 → (∀ r h2, Hs [([], h)] (cl bF ty_formula_Formula [.int .i64 n, .slice s.a s.len s.cap] :: lli cs s :: lb m sm :: (G ++ [llo cs r])) As h2 → K (n, r, ()) h2) →
      callT Tryz.prog fn_formula_Copy #[(.agg #[(.int .i64 n), (.slice s.a s.len s.cap)])] (.agg (.cons (.int .i64) (.cons .sl .nil))) K h1 := fun {G As h1 K} st hK => by
    refine call_of (copy_c (n := n) (st.fz 1 rfl) hl hc) ?_
    rintro _ h2 ⟨r, rfl, n2, x⟩
    have st := (st.new x n2).freeze As.length (A := llo cs r) (by simp)
    rw [List.eraseIdx_append_of_length_le (Nat.le_refl _), Nat.sub_self] at st
    exact hK r h2 (by simpa using st)
  have mkT : ∀ {G As : List Asn} {h1 : Heap} {K : (Int × (Sl × Unit)) → HP}, Hs [([], h)] (cl bF ty_formula_Formula [.int .i64 n, .slice s.a s.len s.cap] :: lli cs s :: lb m sm :: G) As h1 → (∀ r h2, Hs [([], h)] (cl bF ty_formula_Formula [.int .i64 n, .slice s.a s.len s.cap] :: lli cs s :: lb m sm :: (G ++ [oii cs r])) As h2 → K (n, r, ()) h2) →
      callT Tryz.prog fn_salvorlaw05_Theirs #[(.agg #[(.int .i64 n), (.slice s.a s.len s.cap)])] (.agg (.cons (.int .i64) (.cons .sl .nil))) K h1 := fun {G As h1 K} st hK => by
    refine call_of (theirs_c (n := n) (st.fz 1 rfl) hl hc) ?_
    rintro _ h2 ⟨r, rfl, n2, x⟩
    have st := (st.new x n2).freeze As.length (A := oii cs r) (by simp)
    rw [List.eraseIdx_append_of_length_le (Nat.le_refl _), Nat.sub_self] at st
    exact hK r h2 (by simpa using st)
  have mkB : ∀ {G As : List Asn} {h1 : Heap} {K : Sl → HP}, Hs [([], h)] (cl bF ty_formula_Formula [.int .i64 n, .slice s.a s.len s.cap] :: lli cs s :: lb m sm :: G) As h1 → (∀ r h2, Hs [([], h)] (cl bF ty_formula_Formula [.int .i64 n, .slice s.a s.len s.cap] :: lli cs s :: lb m sm :: (G ++ [io (bitsL m) r])) As h2 → K r h2) →
      callT Tryz.prog fn_salvorlaw05_Bits #[(.slice sm.a sm.len sm.cap)] .sl K h1 := fun {G As h1 K} st hK => by
    refine call_of (bits_c (st.fz 2 rfl) hml) ?_
    rintro r h2 ⟨n2, x⟩
    have st := (st.new x n2).freeze As.length (A := io (bitsL m) r) (by simp)
    rw [List.eraseIdx_append_of_length_le (Nat.le_refl _), Nat.sub_self] at st
    exact hK r h2 (by simpa using st)
  have tlEnd : ∀ {G As : List Asn} {h1 : Heap} {bO bR : Nat} {rC rT rB : Sl}, Hs [([], h)] (cl bF ty_formula_Formula [.int .i64 n, .slice s.a s.len s.cap] :: lli cs s :: lb m sm :: G) As h1 → ∀ kO kR : Nat, As[kO]? = some (cl bO ty_formula_Formula [.int .i64 0, .slice none 0 0]) → As[kR]? = some (cl bR ty_salvorref05_Formula [.int .i64 0, .slice none 0 0]) → kO ≠ kR →
      llo cs rC ∈ G → oii cs rT ∈ G → io (bitsL m) rB ∈ G →
      (st1 (⟨bO, 0, none⟩ : Addr) (.int .i64 n) <| st1 ((⟨bO, 0, none⟩ : Addr).add 1) (.slice rC.a rC.len rC.cap) <| st1 (⟨bR, 0, none⟩ : Addr) (.int .i64 n) <| st1 ((⟨bR, 0, none⟩ : Addr).add 1) (.slice rT.a rT.len rT.cap) <| TlTl bF bO bR rB sm l K) h1 := by
    intro G As h1 bO bR rC rT rB st kO kR hO hR hne mC mT mB
    have lO := (List.getElem?_eq_some_iff.1 hO).1
    have lR := (List.getElem?_eq_some_iff.1 hR).1
    refine st.st1 kO 0 hO (by simp) fun h2 st => ?_
    rw [addr_add]
    refine st.st1 kO 1 (by simp [lO]; rfl) (by simp) fun h3 st => ?_
    refine st.st1 kR 0 (c := [.int .i64 0, .slice none 0 0]) (b := bR) (t := ty_salvorref05_Formula) (by simp [List.getElem?_set, hne, lO, hR]) (by simp) fun h4 st => ?_
    rw [addr_add]
    refine st.st1 kR 1 (c := [.int .i64 n, .slice none 0 0]) (b := bR) (t := ty_salvorref05_Formula) (by simp [List.getElem?_set, hne, lO, lR, hR]) (by simp) fun h5 st => ?_
    have kO5 : Blk h5 bO ty_formula_Formula [.int .i64 n, .slice rC.a rC.len rC.cap] := st.blk kO (by simp [List.getElem?_set, hne.symm, lO, lR, hO])
    have kR5 : Blk h5 bR ty_salvorref05_Formula [.int .i64 n, .slice rT.a rT.len rT.cap] := st.blk kR (by simp [List.getElem?_set, hne, lO, lR, hR])
    exact TlTl_c (st.fblk 0 rfl) kO5 kR5 (st.fz 1 rfl) (llo_at (st.fzm (by simp [mC]))) (oii_at (st.fzm (by simp [mT]))) (st.fz 2 rfl) (At.rsl (st.fzm (A := io (bitsL m) rB) (by simp [mB]))) hl hc hml fun h' x => hK' h' ((st.frame (by simp)).nil_trans x)
  refine ⟨?_, ?_⟩
  · refine mkC st fun rC h1 st => ?_
    refine ckF (st.fblk 0 rfl) ?_
    refine ⟨?_, ?_⟩
    · refine mkT st fun rT h2 st => ?_
      refine ⟨?_, ?_⟩
      · refine mkB st fun rB h3 st => ?_
        refine ⟨?_, ?_⟩
        · refine st.nw fun bO h4 st => ?_
          simp only [List.nil_append, List.cons_append] at st
          refine st.nw fun bR h5 st => ?_
          simp only [List.nil_append, List.cons_append] at st
          exact tlEnd st 0 1 rfl rfl (by decide) (by simp) (by simp) (by simp)
        · refine st.nw fun bR h6 st => ?_
          simp only [List.nil_append, List.cons_append] at st
          refine st.nw fun bO h7 st => ?_
          simp only [List.nil_append, List.cons_append] at st
          exact tlEnd st 1 0 rfl rfl (by decide) (by simp) (by simp) (by simp)
      · refine ⟨?_, ?_⟩
        · refine st.nw fun bO h8 st => ?_
          simp only [List.nil_append, List.cons_append] at st
          refine ⟨?_, ?_⟩
          · refine mkB st fun rB h9 st => ?_
            refine st.nw fun bR h10 st => ?_
            simp only [List.nil_append, List.cons_append] at st
            exact tlEnd st 0 1 rfl rfl (by decide) (by simp) (by simp) (by simp)
          · refine st.nw fun bR h11 st => ?_
            simp only [List.nil_append, List.cons_append] at st
            refine mkB st fun rB h12 st => ?_
            exact tlEnd st 0 1 rfl rfl (by decide) (by simp) (by simp) (by simp)
        · refine st.nw fun bR h13 st => ?_
          simp only [List.nil_append, List.cons_append] at st
          refine ⟨?_, ?_⟩
          · refine mkB st fun rB h14 st => ?_
            refine st.nw fun bO h15 st => ?_
            simp only [List.nil_append, List.cons_append] at st
            exact tlEnd st 1 0 rfl rfl (by decide) (by simp) (by simp) (by simp)
          · refine st.nw fun bO h16 st => ?_
            simp only [List.nil_append, List.cons_append] at st
            refine mkB st fun rB h17 st => ?_
            exact tlEnd st 1 0 rfl rfl (by decide) (by simp) (by simp) (by simp)
    · refine ⟨?_, ?_⟩
      · refine st.nw fun bO h18 st => ?_
        simp only [List.nil_append, List.cons_append] at st
        refine ⟨?_, ?_⟩
        · refine mkT st fun rT h19 st => ?_
          refine ⟨?_, ?_⟩
          · refine mkB st fun rB h20 st => ?_
            refine st.nw fun bR h21 st => ?_
            simp only [List.nil_append, List.cons_append] at st
            exact tlEnd st 0 1 rfl rfl (by decide) (by simp) (by simp) (by simp)
          · refine st.nw fun bR h22 st => ?_
            simp only [List.nil_append, List.cons_append] at st
            refine mkB st fun rB h23 st => ?_
            exact tlEnd st 0 1 rfl rfl (by decide) (by simp) (by simp) (by simp)
        · refine st.nw fun bR h24 st => ?_
          simp only [List.nil_append, List.cons_append] at st
          refine mkT st fun rT h25 st => ?_
          refine mkB st fun rB h26 st => ?_
          exact tlEnd st 0 1 rfl rfl (by decide) (by simp) (by simp) (by simp)
      · refine st.nw fun bR h27 st => ?_
        simp only [List.nil_append, List.cons_append] at st
        refine ⟨?_, ?_⟩
        · refine mkT st fun rT h28 st => ?_
          refine ⟨?_, ?_⟩
          · refine mkB st fun rB h29 st => ?_
            refine st.nw fun bO h30 st => ?_
            simp only [List.nil_append, List.cons_append] at st
            exact tlEnd st 1 0 rfl rfl (by decide) (by simp) (by simp) (by simp)
          · refine st.nw fun bO h31 st => ?_
            simp only [List.nil_append, List.cons_append] at st
            refine mkB st fun rB h32 st => ?_
            exact tlEnd st 1 0 rfl rfl (by decide) (by simp) (by simp) (by simp)
        · refine st.nw fun bO h33 st => ?_
          simp only [List.nil_append, List.cons_append] at st
          refine mkT st fun rT h34 st => ?_
          refine mkB st fun rB h35 st => ?_
          exact tlEnd st 1 0 rfl rfl (by decide) (by simp) (by simp) (by simp)
  · refine ⟨?_, ?_⟩
    · refine st.nw fun bO h36 st => ?_
      simp only [List.nil_append, List.cons_append] at st
      refine ⟨?_, ?_⟩
      · refine mkC st fun rC h37 st => ?_
        refine ckF (st.fblk 0 rfl) ?_
        refine ⟨?_, ?_⟩
        · refine mkT st fun rT h38 st => ?_
          refine ⟨?_, ?_⟩
          · refine mkB st fun rB h39 st => ?_
            refine st.nw fun bR h40 st => ?_
            simp only [List.nil_append, List.cons_append] at st
            exact tlEnd st 0 1 rfl rfl (by decide) (by simp) (by simp) (by simp)
          · refine st.nw fun bR h41 st => ?_
            simp only [List.nil_append, List.cons_append] at st
            refine mkB st fun rB h42 st => ?_
            exact tlEnd st 0 1 rfl rfl (by decide) (by simp) (by simp) (by simp)
        · refine st.nw fun bR h43 st => ?_
          simp only [List.nil_append, List.cons_append] at st
          refine mkT st fun rT h44 st => ?_
          refine mkB st fun rB h45 st => ?_
          exact tlEnd st 0 1 rfl rfl (by decide) (by simp) (by simp) (by simp)
      · refine st.nw fun bR h46 st => ?_
        simp only [List.nil_append, List.cons_append] at st
        refine mkC st fun rC h47 st => ?_
        refine ckF (st.fblk 0 rfl) ?_
        refine mkT st fun rT h48 st => ?_
        refine mkB st fun rB h49 st => ?_
        exact tlEnd st 0 1 rfl rfl (by decide) (by simp) (by simp) (by simp)
    · refine st.nw fun bR h50 st => ?_
      simp only [List.nil_append, List.cons_append] at st
      refine ⟨?_, ?_⟩
      · refine mkC st fun rC h51 st => ?_
        refine ckF (st.fblk 0 rfl) ?_
        refine ⟨?_, ?_⟩
        · refine mkT st fun rT h52 st => ?_
          refine ⟨?_, ?_⟩
          · refine mkB st fun rB h53 st => ?_
            refine st.nw fun bO h54 st => ?_
            simp only [List.nil_append, List.cons_append] at st
            exact tlEnd st 1 0 rfl rfl (by decide) (by simp) (by simp) (by simp)
          · refine st.nw fun bO h55 st => ?_
            simp only [List.nil_append, List.cons_append] at st
            refine mkB st fun rB h56 st => ?_
            exact tlEnd st 1 0 rfl rfl (by decide) (by simp) (by simp) (by simp)
        · refine st.nw fun bO h57 st => ?_
          simp only [List.nil_append, List.cons_append] at st
          refine mkT st fun rT h58 st => ?_
          refine mkB st fun rB h59 st => ?_
          exact tlEnd st 1 0 rfl rfl (by decide) (by simp) (by simp) (by simp)
      · refine st.nw fun bO h60 st => ?_
        simp only [List.nil_append, List.cons_append] at st
        refine mkC st fun rC h61 st => ?_
        refine ckF (st.fblk 0 rfl) ?_
        refine mkT st fun rT h62 st => ?_
        refine mkB st fun rB h63 st => ?_
        exact tlEnd st 1 0 rfl rfl (by decide) (by simp) (by simp) (by simp)

end Go.Proofs.S

set_option linter.unusedVariables false
set_option linter.unusedSimpArgs false
namespace Go.Proofs.S
open Go Go.Sx Go.Proofs Go.Cl

variable {h : Heap} {s : Sl} {fr : Fr} {G As : List Asn} {m : List Bool} {sm : Sl} {cs : List (List Int)} {n : Int}

theorem few_c (hA : At h (lli cs s)) : callT Tryz.prog fn_salvorlaw05_few #[.agg #[.int .i64 n, .slice s.a s.len s.cap]] .bool (fun r h' => Ext [] h h') h := by
  refine callT_gen fun K hK => S_salvorlaw05_few (a0 := (n, s, ())) K ?_
  unfold F_salvorlaw05_few
  have st := Hs.start h [lli cs s] (by simp [hA])
  have l1 := rsg_len hA
  have l2 := rsgcap hA
  refine st.nw fun b0 h1 st => ?_
  simp only [List.nil_append] at st
  rw [addr_add, st.lds 0 1 rfl rfl, st.lds 0 1 rfl rfl]
  have em : (if (101 : Int) < (s.len : Int) then (101 : Int) else (s.len : Int)) = ((min cs.length 101 : Nat) : Int) := by split <;> omega
  rw [em]
  refine ⟨Int.natCast_nonneg _, Int.ofNat_le.2 (show min cs.length 101 ≤ s.cap by omega), ?_⟩
  rw [Int.toNat_natCast]
  have hT := rsgtake (st.fz 0 rfl) (n := min cs.length 101) (by omega)
  have lT : (slR ⟨s.a, s.len, s.cap⟩ 0 (min cs.length 101) 1).len = _ := rsg_len hT
  have xf := st.frame (h0 := h) (by simp)
  refine lfp_invh (I := fun μ σ h' => ∃ (i : Nat) (u : Int), σ = ((i : Int), u, ()) ∧ i ≤ (cs.take (min cs.length 101)).length ∧ h' = h1 ∧ μ = (cs.take (min cs.length 101)).length - i) ⟨_, 0, 0, rfl, by omega, rfl, rfl⟩ ?_
  rintro μ σ h' X ⟨i, u, rfl, hi, rfl, em2⟩ hX
  simp only
  by_cases hlt : i < (cs.take (min cs.length 101)).length
  · refine brT (decide_eq_true (by omega)) ?_
    refine rdG hT hlt fun p hp => ?_
    rw [inc_i (by simp at hlt; omega)]
    exact hX _ _ _ ⟨i + 1, _, rfl, by omega, rfl, rfl⟩ (by omega)
  · refine brF (decide_eq_false (by omega)) ?_
    rw [st.lds 0 1 rfl rfl]
    refine jn_in fun J hJ => ?_
    by_cases q : decide ((s.len : Int) ≤ 100) = true
    · exact brT q (hJ _ _ (hK _ _ xf))
    · exact brF (by simpa using q) (hJ _ _ (hK _ _ xf))

theorem formulaTells_F (hA : At h (lli cs s)) (hm : At h (lb m sm)) (hl : cs.length ≤ 1048576) (hc : ∀ c ∈ cs, c.length ≤ 1048576) (l : Int) (K : Bool → HP) (hK : ∀ x h', (x = true ∧ Ext [] h h') → K x h') : F_salvorlaw05_FormulaTells (n, s, ()) sm l K h := by
  unfold F_salvorlaw05_FormulaTells
  have st := Hs.start h [lli cs s, lb m sm] (by simp [hA, hm])
  have lm := rsl_len hm
  refine st.nw fun b0 h1 st => ?_
  simp only [List.nil_append] at st
  refine ldF (s := s) (st.blk 0 rfl) ?_
  refine call_of (few_c (n := n) (st.fz 0 rfl)) ?_
  rintro r2 h2 x2
  have st := st.ext x2
  have fin : ∀ (J : Bool → HP) h', (∀ t h2, (jn (σ := Bool) (fun t8 => K t8) (fun J7 => brB t (callT Tryz.prog fn_salvorlaw05_awake #[] .bool fun r9 => J7 r9) (J7 false))) h2 → J t h2) → Ext [] h h' → J true h' := fun J h' hJ x => hJ _ _ (by
    refine jn_in fun J7 hJ7 => brT rfl ?_
    refine call_of fawake_c ?_
    rintro _ h3 ⟨rfl, x3⟩
    exact hJ7 _ _ (hK _ _ ⟨rfl, x.nil_trans x3⟩))
  refine jn_in fun J3 hJ3 => ?_
  have go : ∀ t h', h' = h2 → (t = false → m.length ≤ 300) → J3 t h' := by
    rintro t h' rfl ht
    refine hJ3 _ _ (jn_in fun J5 hJ5 => ?_)
    cases t with
    | true => exact brT rfl (fin J5 _ hJ5 (st.frame (by simp)))
    | false =>
      refine brF rfl ?_
      refine ldF (s := s) (st.blk 0 rfl) ?_
      refine call_of (tells_c (n := n) (st.fz 0 rfl) (st.fz 1 rfl) hl hc (by have := ht rfl; omega) l) ?_
      rintro _ h3 ⟨rfl, x3⟩
      exact fin J5 _ hJ5 ((st.ext x3).frame (by simp))
  cases r2 with
  | false => exact brT rfl (go true _ rfl fun e => by cases e)
  | true =>
    refine brF rfl (go _ _ rfl fun e => ?_)
    have e := of_decide_eq_false e
    omega

end Go.Proofs.S

set_option linter.unusedVariables false
set_option linter.unusedSimpArgs false
namespace Go.Fo
open Go Go.Cl

variable {m : List Bool} {x l : Int} {cs : List (List Int)} {c : List Int} {v : Nat}

def tru (m : List Bool) (x : Int) : Bool := (m[(varL x - 1).toNat]?.getD false) != decide (x < 0)
def hold (cs : List (List Int)) (m : List Bool) : Bool := cs.all fun c => c.any (tru m)
def asg (l : Int) (cs : List (List Int)) : List (List Int) := (cs.filter fun c => !c.contains l).map fun c => c.filter fun x => !(x == -l)
def InV (v : Nat) (cs : List (List Int)) : Prop := ∀ c ∈ cs, ∀ x ∈ c, rt x = true ∧ varL x ≤ v

theorem varL_pos (h : rt x = true) : 1 ≤ varL x := by
  have := rt_iff.1 h
  unfold varL; rw [if_pos h]; split <;> omega
theorem varL_neg (h : rt x = true) : varL (-x) = varL x := by
  have h0 := rt_iff.1 h
  have h1 : rt (-x) = true := rt_iff.2 (by omega)
  unfold varL; rw [if_pos h, if_pos h1]
  split <;> split <;> omega
theorem varL_eq {y : Int} (h : rt x = true) (hy : rt y = true) (e : varL x = varL y) : x = y ∨ x = -y := by
  have h0 := rt_iff.1 h
  have h1 := rt_iff.1 hy
  unfold varL at e
  rw [if_pos h, if_pos hy] at e
  split at e <;> split at e <;> omega
theorem tru_neg (h : rt x = true) : tru m (-x) = !tru m x := by
  have h0 := rt_iff.1 h
  unfold tru
  rw [varL_neg h]
  have e : decide (-x < 0) = !decide (x < 0) := by
    by_cases hx : x < 0
    · rw [decide_eq_true hx, decide_eq_false (by omega)]; rfl
    · rw [decide_eq_false hx, decide_eq_true (by omega)]; rfl
  rw [e]
  cases m[(varL x - 1).toNat]?.getD false <;> cases decide (x < 0) <;> rfl

theorem hold_asg (hl : rt l = true) (ht : tru m l = true) : hold (asg l cs) m = hold cs m := by
  have hn : tru m (-l) = false := by rw [tru_neg hl, ht]; rfl
  unfold hold asg
  rw [List.all_map, Bool.eq_iff_iff, List.all_eq_true, List.all_eq_true]
  constructor
  · intro h c hc
    rw [List.any_eq_true]
    by_cases hm : l ∈ c
    · exact ⟨l, hm, ht⟩
    · have := h c (List.mem_filter.2 ⟨hc, by simpa using hm⟩)
      obtain ⟨y, hy, hty⟩ := List.any_eq_true.1 this
      exact ⟨y, (List.mem_filter.1 hy).1, hty⟩
  · intro h c hc
    obtain ⟨y, hy, hty⟩ := List.any_eq_true.1 (h c (List.mem_filter.1 hc).1)
    show (List.any _ _) = true
    refine List.any_eq_true.2 ⟨y, List.mem_filter.2 ⟨hy, ?_⟩, hty⟩
    simp only [Bool.not_eq_true', beq_eq_false_iff_ne]
    rintro rfl
    rw [hn] at hty; cases hty

def turn (l : Int) (m : List Bool) : List Bool := m.set (varL l - 1).toNat (!(m[(varL l - 1).toNat]?.getD false))
theorem turn_same (hl : rt l = true) (hx : rt x = true) (hv : varL l ≤ m.length) (h : varL x = varL l) : tru (turn l m) x = !tru m x := by
  have := varL_pos hl
  unfold tru turn
  rw [h, List.getElem?_set_self (by omega)]
  simp only [Option.getD_some]
  cases m[(varL l - 1).toNat]?.getD false <;> cases decide (x < 0) <;> rfl
theorem turn_other (hl : rt l = true) (hx : rt x = true) (h : varL x ≠ varL l) : tru (turn l m) x = tru m x := by
  have h1 := varL_pos hl
  have h2 := varL_pos hx
  unfold tru turn
  rw [List.getElem?_set_ne (by omega)]
theorem turn_turn (hl : rt l = true) (hv : varL l ≤ m.length) : turn l (turn l m) = m := by
  have := varL_pos hl
  have hi : (varL l - 1).toNat < m.length := by omega
  unfold turn
  rw [List.getElem?_set_self hi, List.set_set]
  simp only [Option.getD_some, Bool.not_not]
  rw [List.getElem?_eq_getElem hi]
  simp
theorem hold_turn (hl : rt l = true) (hc : InV v cs) (hm : m.length = v) : hold (asg l cs) (turn l m) = hold (asg l cs) m := by
  unfold hold asg
  rw [List.all_map, List.all_map, Bool.eq_iff_iff, List.all_eq_true, List.all_eq_true]
  have key : ∀ c ∈ cs.filter (fun c => !c.contains l), ∀ x ∈ c.filter (fun x => !(x == -l)), tru (turn l m) x = tru m x := by
    intro c hcf x hx
    obtain ⟨h1, h2⟩ := List.mem_filter.1 hcf
    obtain ⟨h3, h4⟩ := List.mem_filter.1 hx
    have hr := (hc c h1 x h3).1
    refine turn_other hl hr fun e => ?_
    rcases varL_eq hr hl e with rfl | rfl
    · simp [h3] at h2
    · simp at h4
  constructor
  · intro h c hcf
    obtain ⟨y, hy, hty⟩ := List.any_eq_true.1 (h c hcf)
    exact List.any_eq_true.2 ⟨y, hy, by rw [← key c hcf y hy]; exact hty⟩
  · intro h c hcf
    obtain ⟨y, hy, hty⟩ := List.any_eq_true.1 (h c hcf)
    exact List.any_eq_true.2 ⟨y, hy, by rw [key c hcf y hy]; exact hty⟩

theorem allB_nodup (v : Nat) : (Cr.allB v).Nodup := (Cr.allB_sorted v).imp fun {a b} h e => by
  subst e
  rw [Cr.ltB_irrefl] at h; cases h
abbrev mods (v : Nat) (cs : List (List Int)) : List (List Bool) := (Cr.allB v).filter (hold cs)
theorem mods_half (hl : rt l = true) (hv : varL l ≤ v) (hc : InV v cs) : (mods v (asg l cs)).length = 2 * ((mods v (asg l cs)).filter fun m => tru m l).length := by
  have hm : ∀ m ∈ mods v (asg l cs), m.length = v ∧ hold (asg l cs) m = true := fun m h => by
    obtain ⟨a, b⟩ := List.mem_filter.1 h
    exact ⟨Cr.mem_allB.1 a, b⟩
  refine half ((allB_nodup v).filter _) (f := turn l) (fun m h => ?_) fun m h => ?_
  · obtain ⟨a, b⟩ := hm m h
    refine ⟨List.mem_filter.2 ⟨Cr.mem_allB.2 (by simp [turn, a]), by rw [hold_turn hl hc a]; exact b⟩, turn_turn hl (by rw [a]; omega)⟩
  · obtain ⟨a, _⟩ := hm m h
    exact turn_same hl hl (by rw [a]; omega) rfl
theorem mods_with (hl : rt l = true) : (mods v (asg l cs)).filter (fun m => tru m l) = (mods v cs).filter fun m => tru m l := by
  unfold mods
  rw [List.filter_filter, List.filter_filter]
  refine List.filter_congr fun m _ => ?_
  cases h : tru m l
  · rfl
  · rw [hold_asg hl h]
theorem mods_parts (hl : rt l = true) (hv : varL l ≤ v) (hc : InV v cs) : (mods v (asg l cs)).length % 2 = 0 ∧ (mods v (asg (-l) cs)).length % 2 = 0 ∧ (mods v cs).length = (mods v (asg l cs)).length / 2 + (mods v (asg (-l) cs)).length / 2 := by
  have h0 := rt_iff.1 hl
  have hn : rt (-l) = true := rt_iff.2 (by omega)
  have a := mods_half hl hv hc
  have b := mods_half hn (by rw [varL_neg hl]; exact hv) hc
  rw [mods_with hl] at a
  rw [mods_with hn] at b
  have e : ((mods v cs).filter fun m => tru m (-l)) = (mods v cs).filter fun m => !tru m l := List.filter_congr fun m _ => tru_neg hl
  rw [e] at b
  have c : ((mods v cs).filter fun m => tru m l).length + ((mods v cs).filter fun m => !tru m l).length = (mods v cs).length := by
    generalize mods v cs = L
    induction L with
    | nil => rfl
    | cons x L ih =>
      simp only [List.filter_cons]
      cases tru x l <;> simp <;> omega
  omega

end Go.Fo

set_option linter.unusedVariables false
set_option linter.unusedSimpArgs false
namespace Go.Proofs.S
open Go Go.Sx Go.Proofs Go.Cl

theorem checkGo_empty (n : Int) : ∀ (N i : Nat), checkGo n i (List.replicate N []) = (-1, 0)
  | 0, i => rfl
  | N + 1, i => by
    rw [List.replicate_succ]
    show (if rightC [] then (if ([] : List Int).any (beyP n) then ((i : Int), 51) else checkGo n (i + 1) (List.replicate N [])) else ((i : Int), 20)) = _
    rw [if_pos (by rfl), if_neg (by simp), checkGo_empty n N]
theorem check_many {N : Nat} (h : 262144 < N) : checkP 1 (List.replicate N []) = (-1, 5) := by
  unfold checkP
  rw [if_pos (by rfl), if_pos (by simpa using h)]
theorem check_full {N : Nat} (h : N ≤ 262144) : checkP 1 (List.replicate N []) = (-1, 0) := by
  unfold checkP
  rw [if_pos (by rfl), if_neg (by simpa using h), checkGo_empty]

theorem filter_flatMap_len {α β : Type} {p : β → Bool} {q : α → Bool} {f : α → List β} {N : Nat} (hf : ∀ a, (f a).length = N) (hp : ∀ a, ∀ b ∈ f a, p b = q a) : ∀ l : List α, ((l.flatMap f).filter p).length = (l.filter q).length * N
  | [] => by simp
  | a :: l => by
    have ih := filter_flatMap_len (N := N) hf hp l
    rw [List.flatMap_cons, List.filter_append, List.length_append, ih, List.filter_cons]
    cases hq : q a with
    | true =>
      rw [List.filter_eq_self.2 (fun b hb => by rw [hp a b hb, hq]), hf]
      simp only [if_true, List.length_cons, Nat.succ_mul]; omega
    | false =>
      rw [List.filter_eq_nil_iff.2 (fun b hb => by rw [hp a b hb, hq]; decide)]
      simp
theorem modelsF_mods2 (v : Nat) (cs : List (List Int)) : modelsF v cs = Go.Fo.mods v cs := by
  unfold modelsF Go.Fo.mods
  refine List.filter_congr fun m _ => ?_
  rw [Bool.eq_iff_iff, decide_eq_true_iff, failsGo_neg]
  unfold Go.Fo.hold
  rw [List.all_eq_true]
  exact Iff.rfl
theorem count16 : (modelsF 16 [[1], [-2], [3, 4]]).length = 12288 := by
  rw [modelsF_mods2]
  unfold Go.Fo.mods
  rw [show (16 : Nat) = 4 + 12 from rfl, Cr.allB_add]
  have h1 : ∀ a : List Bool, ((Cr.allB 12).map (a ++ ·)).length = 2 ^ 12 := fun a => by rw [List.length_map, Cr.allB_len]
  have key : ∀ l : List (List Bool), (∀ a ∈ l, a.length = 4) → ((l.flatMap fun a => (Cr.allB 12).map (a ++ ·)).filter (Go.Fo.hold [[1], [-2], [3, 4]])).length = (l.filter (Go.Fo.hold [[1], [-2], [3, 4]])).length * 2 ^ 12 := by
    intro l
    induction l with
    | nil => intro _; simp
    | cons a l ih =>
      intro hl
      have ha := hl a (by simp)
      have hp : ∀ b ∈ (Cr.allB 12).map (a ++ ·), Go.Fo.hold [[1], [-2], [3, 4]] b = Go.Fo.hold [[1], [-2], [3, 4]] a := fun b hb => by
        obtain ⟨z, _, rfl⟩ := List.mem_map.1 hb
        have ht : ∀ x : Int, 1 ≤ varL x → varL x ≤ 4 → Go.Fo.tru (a ++ z) x = Go.Fo.tru a x := fun x h1 h2 => by
          unfold Go.Fo.tru
          rw [List.getElem?_append_left (by omega)]
        unfold Go.Fo.hold
        simp only [List.all_cons, List.all_nil, List.any_cons, List.any_nil]
        rw [ht 1 (by decide) (by decide), ht (-2) (by decide) (by decide), ht 3 (by decide) (by decide), ht 4 (by decide) (by decide)]
      rw [List.flatMap_cons, List.filter_append, List.length_append, ih fun b hb => hl b (by simp [hb]), List.filter_cons]
      cases hq : Go.Fo.hold [[1], [-2], [3, 4]] a with
      | true =>
        rw [List.filter_eq_self.2 (fun b hb => by rw [hp b hb, hq]), h1]
        simp only [if_true, List.length_cons, Nat.succ_mul]; omega
      | false =>
        rw [List.filter_eq_nil_iff.2 (fun b hb => by rw [hp b hb, hq]; decide)]
        simp
  rw [key _ fun a ha => Cr.mem_allB.1 ha]
  have e : ((Cr.allB 4).filter (Go.Fo.hold [[1], [-2], [3, 4]])).length = 3 := by decide +kernel
  rw [e]
theorem model_big {N : Nat} (h0 : 1 ≤ N) (h1 : N ≤ 1048576) : modelF N [(N : Int)] = ((List.replicate N false).set (N - 1) true, 0) := by
  have hr : rt (N : Int) = true := rt_iff.2 (by omega)
  have hv : varL (N : Int) = N := by unfold varL; rw [if_pos hr, if_neg (by omega)]
  have hb : beyP (N : Int) (N : Int) = false := by unfold beyP; rw [hr, hv]; simp
  unfold modelF
  rw [if_pos (by unfold varsP; simp; omega), modelGo_cons, if_neg (by simp [hb]), hv]
  have e : ((N : Int) - 1).toNat = N - 1 := by omega
  rw [e, Int.toNat_natCast]
  have g : (List.replicate N false).getD (N - 1) false = false := by
    rw [List.getD_eq_getElem?_getD, List.getElem?_replicate]
    split <;> rfl
  rw [g]
  simp only [Bool.false_and, Bool.false_eq_true, if_false]
  rw [decide_eq_false (show ¬ (N : Int) < 0 by omega), Go.Proofs.S.modelGo_nil]
  rfl

end Go.Proofs.S
