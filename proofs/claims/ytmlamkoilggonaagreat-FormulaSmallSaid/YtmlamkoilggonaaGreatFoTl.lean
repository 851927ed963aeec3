/-
  salvorlaw05.tells: its tail.
-/
import Derived.Test.YtmlamkoilggonaaGreatFoMlT
set_option linter.unusedVariables false
set_option linter.unusedSimpArgs false
namespace Go.Proofs.S
open Go Go.Sx Go.Proofs Go.Cl

variable {h : Heap} {c d : List Int} {s s2 : Sl} {fr : Fr} {G As : List Asn} {m k : List Bool} {sm sr sc : Sl} {cs ds : List (List Int)} {n n2 : Int}

def MRes (n : Int) (cs : List (List Int)) (r : Value × (Int × Unit)) (G' : List Asn) : Prop :=
  ((checkP n cs).2 ≠ 0 ∧ r = (.nilFunc, (checkP n cs).2, ()) ∧ G' = []) ∨ ((checkP n cs).2 = 0 ∧ n > 16 ∧ r = (.nilFunc, 5, ()) ∧ G' = []) ∨
    ∃ (v b : Nat) (s' : Sl), n = v ∧ (checkP n cs).2 = 0 ∧ v ≤ 16 ∧ r = (modV b, 0, ()) ∧ G' = [cF b v s', lli cs s']
theorem Hs.models_any {K : (Value × (Int × Unit)) → HP} (st : Hs fr G As h) (hA : At h (lli cs s)) (hK : ∀ r G' h', MRes n cs r G' → Hs fr (G ++ G') As h' → K r h') :
    callT Tryz.prog fn_formula_Models #[.agg #[.int .i64 n, .slice s.a s.len s.cap]] (.tup (.cons .val (.cons (.int .i64) .nil))) K h := by
  refine Hs.Models (n := n) st hA (fun h0 h' st x => ?_) (fun h0 h1 h' st x => ?_) fun v hv h0 h1 b s' h' st => ?_
  · exact hK _ [] h' (.inl ⟨h0, rfl, rfl⟩) (by rw [List.append_nil]; exact st)
  · exact hK _ [] h' (.inr (.inl ⟨h0, h1, rfl, rfl⟩)) (by rw [List.append_nil]; exact st)
  · exact hK _ _ h' (.inr (.inr ⟨v, b, s', hv, h0, h1, rfl, rfl⟩)) st

theorem bey_lit {l : Int} (h0 : 0 ≤ n) (h1 : n ≤ 1048576) : beyP n l = true ↔ l = 0 ∨ l < -n ∨ l > n := by
  rw [bey_iff]
  unfold varL
  cases hr : rt l with
  | true =>
    have := rt_iff.1 hr
    simp only [if_true]
    split <;> omega
  | false =>
    have : ¬ (l ≠ 0 ∧ -1048576 ≤ l ∧ l ≤ 1048576) := fun q => by rw [rt_iff.2 q] at hr; cases hr
    simp only [Bool.false_eq_true, if_false]
    omega
theorem nilFn_in {K : Bool → HP} (hK : K true h) : fnE .nilFunc K h := ⟨.inl rfl, hK⟩
theorem modFn_in {b : Nat} {K : Bool → HP} (hK : K false h) : fnE (modV b) K h := ⟨.inr ⟨_, _, _, rfl⟩, hK⟩
theorem failsGo_ge : ∀ {cs : List (List Int)} {i : Nat}, failsGo m i cs = -1 ∨ (i : Int) ≤ failsGo m i cs
  | [], i => .inl rfl
  | c :: cs, i => by
    unfold failsGo
    split
    · exact (failsGo_ge (cs := cs) (i := i + 1)).imp id (fun q => by omega)
    · exact .inr (Int.le_refl _)

set_option maxHeartbeats 2000000 in
theorem TlTl_c {bF bO bR : Nat} {rO rR rB : Sl} {l : Int} {K : Bool → HP} (kF : Blk h bF ty_formula_Formula [.int .i64 n, .slice s.a s.len s.cap]) (kO : Blk h bO ty_formula_Formula [.int .i64 n, .slice rO.a rO.len rO.cap]) (kR : Blk h bR ty_salvorref05_Formula [.int .i64 n, .slice rR.a rR.len rR.cap])
    (hF : At h (lli cs s)) (hO : At h (lli cs rO)) (hR : At h (lli cs rR)) (hm : At h (lb m sm)) (hB : At h (li (bitsL m) rB)) (hl : cs.length ≤ 1048576) (hc : ∀ c ∈ cs, c.length ≤ 1048576) (hml : m.length ≤ 1048576)
    (hK : ∀ h', Ext [] h h' → K true h') : TlTl bF bO bR rB sm l K h := by
  unfold TlTl
  have hc2 : ∀ c ∈ cs, c.length ≤ 1099511627776 := fun c hcc => by have := hc c hcc; omega
  have st := Hs.start h [cl bF ty_formula_Formula [.int .i64 n, .slice s.a s.len s.cap], cl bO ty_formula_Formula [.int .i64 n, .slice rO.a rO.len rO.cap], cl bR ty_salvorref05_Formula [.int .i64 n, .slice rR.a rR.len rR.cap], lli cs s, lli cs rO, lli cs rR, lb m sm, li (bitsL m) rB] (by
    intro A hA
    simp only [List.mem_cons, List.not_mem_nil, or_false] at hA
    rcases hA with rfl | rfl | rfl | rfl | rfl | rfl | rfl | rfl
    · exact ⟨[bF], rfl, kF⟩
    · exact ⟨[bO], rfl, kO⟩
    · exact ⟨[bR], rfl, kR⟩
    · exact hF
    · exact hO
    · exact hR
    · exact hm
    · exact hB)
  clear kF kO kR hF hO hR hm hB
  refine ldF (s := rO) (st.fblk 1 rfl) ?_
  refine ldF (s := rR) (st.fblk 2 rfl) ?_
  refine call_of (lawEqual_c (n := n) (n2 := n) (st.fz 4 rfl) (st.fz 5 rfl) hl hc) ?_
  rintro _ h1 ⟨er, x1⟩
  have er : _ = true := er.trans (by simp)
  subst er
  have st := st.ext x1
  refine jn_mid (M := fun (t : Bool) h' => t = false ∧ Hs [([], h)] [cl bF ty_formula_Formula [.int .i64 n, .slice s.a s.len s.cap], cl bO ty_formula_Formula [.int .i64 n, .slice rO.a rO.len rO.cap], cl bR ty_salvorref05_Formula [.int .i64 n, .slice rR.a rR.len rR.cap], lli cs s, lli cs rO, lli cs rR, lb m sm, li (bitsL m) rB] [] h') ?_ ?_
  rotate_left
  · intro J hJ
    refine brF rfl ?_
    refine ldF (s := rO) (st.fblk 1 rfl) ?_
    refine ldF (s := s) (st.fblk 0 rfl) ?_
    refine call_of (Same_c (n := n) (n2 := n) (st.fz 4 rfl) (st.fz 3 rfl) (by omega) hc2) ?_
    rintro _ h2 ⟨er, x2⟩
    exact hJ _ _ ⟨by rw [er]; simp, st.ext x2⟩
  clear st
  rintro t h2 ⟨rfl, st⟩
  refine brF rfl ?_
  refine ldF (s := rO) (st.fblk 1 rfl) ?_
  refine call_of (check_c (n := n) (st.fz 4 rfl)) ?_
  rintro _ h3 ⟨rfl, x3⟩
  have st := st.ext x3
  refine ldF (s := rR) (st.fblk 2 rfl) ?_
  refine call_of (rcheck_c (n := n) (st.fz 5 rfl) hc2) ?_
  rintro _ h4 ⟨rfl, x4⟩
  have st := st.ext x4
  refine ldF (s := rO) (st.fblk 1 rfl) ?_
  refine call_of (Value_c (n := n) (st.fz 4 rfl) (st.fz 6 rfl)) ?_
  rintro _ h5 ⟨rfl, x5⟩
  have st := st.ext x5
  refine ldF (s := rO) (st.fblk 1 rfl) ?_
  refine call_of (Fails_c (n := n) (st.fz 4 rfl) (st.fz 6 rfl)) ?_
  rintro _ h6 ⟨rfl, x6⟩
  have st := st.ext x6
  refine ldF (s := rO) (st.fblk 1 rfl) ?_
  refine call_of (assign_c (n := n) (st.fz 4 rfl) l) ?_
  rintro _ h7 ⟨rA, rfl, n7, x7⟩
  have st := (st.new x7 n7).freeze 0 rfl
  simp only [List.nil_append, List.cons_append, List.eraseIdx_cons_zero] at st
  refine st.nw fun b23 h8 st => ?_
  simp only [List.nil_append, List.cons_append] at st
  refine st.st1 0 0 rfl (by simp) fun h9 st => ?_
  refine st.st1 0 1 rfl (by simp) fun h10 st => ?_
  simp only [List.set_cons_zero, List.set_cons_succ] at st
  have st := st.freeze 0 rfl
  simp only [List.nil_append, List.cons_append, List.eraseIdx_cons_zero] at st
  refine ldF (s := rO) (st.fblk 1 rfl) ?_
  refine call_of (fnorm_c (n := n) (st.fz 4 rfl)) ?_
  rintro _ h11 ⟨rN, rfl, n11, x11⟩
  have st := (st.new x11 n11).freeze 0 rfl
  simp only [List.nil_append, List.cons_append, List.eraseIdx_cons_zero] at st
  refine st.nw fun b26 h12 st => ?_
  simp only [List.nil_append, List.cons_append] at st
  refine st.st1 0 0 rfl (by simp) fun h13 st => ?_
  refine st.st1 0 1 rfl (by simp) fun h14 st => ?_
  simp only [List.set_cons_zero, List.set_cons_succ] at st
  have st := st.freeze 0 rfl
  simp only [List.nil_append, List.cons_append, List.eraseIdx_cons_zero] at st
  refine ldF (s := rO) (st.fblk 1 rfl) ?_
  refine call_of (count_c (n := n) (st.fz 4 rfl)) ?_
  rintro _ h15 ⟨rfl, x15⟩
  have st := st.ext x15
  refine ldF (s := rO) (st.fblk 1 rfl) ?_
  refine call_of (first_c (n := n) (st.fz 4 rfl)) ?_
  rintro _ h16 ⟨rF, rfl, n16, x16⟩
  have st := (st.new x16 n16).freeze 0 rfl
  simp only [List.nil_append, List.cons_append, List.eraseIdx_cons_zero] at st
  refine ldF (s := rO) (st.fblk 1 rfl) ?_
  refine Hs.models_any (n := n) st (st.fz 4 rfl) fun r32 G' h17 hres st => ?_
  simp only [List.nil_append, List.cons_append] at st
  simp only
  have lF := osl_len (st.fz 12 rfl)
  refine jn_in fun J1 hJ1 => brF (by simp) (hJ1 _ _ ?_)
  refine jn_in fun J2 hJ2 => brF (by simp) ?_
  refine ldF (s := rO) (st.fblk 1 rfl) ?_
  refine ldF (s := rR) (st.fblk 2 rfl) ?_
  refine call_of (lawEqual_c (n := n) (n2 := n) (st.fz 4 rfl) (st.fz 5 rfl) hl hc) ?_
  rintro _ h18 ⟨er, x18⟩
  have er : _ = true := er.trans (by simp)
  subst er
  have st := st.ext x18
  refine hJ2 _ _ (jn_in fun J3 hJ3 => brF rfl ?_)
  refine call_of (bits_c (st.fz 6 rfl) hml) ?_
  rintro r141 h19 ⟨n19, x19⟩
  have st := st.ext x19
  refine call_of (equal_int n19.at.rsl (st.fz 7 rfl) (by simp; omega)) ?_
  rintro _ h20 ⟨er, e⟩; subst e
  have er : _ = true := er.trans (by simp)
  subst er
  refine hJ3 _ _ (brF rfl ?_)
  clear hJ1 hJ2 hJ3 J1 J2 J3
  refine st.nw fun b39 h21 st => ?_
  simp only [List.nil_append] at st
  refine st.st1 0 0 rfl (by simp) fun h22 st => ?_
  refine st.st1 0 1 rfl (by simp) fun h23 st => ?_
  simp only [List.set_cons_zero, List.set_cons_succ] at st
  -- nothing, compared with nothing
  have noneSame : ∀ {b : Nat} {r : Sl} {h' : Heap} {K : Bool → HP}, Hs [([], h)] (cl bF ty_formula_Formula [.int .i64 n, .slice s.a s.len s.cap] :: cl bO ty_formula_Formula [.int .i64 n, .slice rO.a rO.len rO.cap] :: cl bR ty_salvorref05_Formula [.int .i64 n, .slice rR.a rR.len rR.cap] :: lli cs s :: lli cs rO :: lli cs rR :: lb m sm :: li (bitsL m) rB :: llo (assignF n cs l).1.2 rA :: cl b23 ty_formula_Formula [.int .i64 (assignF n cs l).1.1, .slice rA.a rA.len rA.cap] :: lgo (normF n cs).1.2 rN :: cl b26 ty_formula_Formula [.int .i64 (normF n cs).1.1, .slice rN.a rN.len rN.cap] :: ob (firstF n cs).1 rF :: G') [cl b39 ty_formula_Formula [.int .i64 0, .slice none 0 0]] h' →
      cl b ty_formula_Formula [.int .i64 0, .slice r.a r.len r.cap] ∈ (cl bF ty_formula_Formula [.int .i64 n, .slice s.a s.len s.cap] :: cl bO ty_formula_Formula [.int .i64 n, .slice rO.a rO.len rO.cap] :: cl bR ty_salvorref05_Formula [.int .i64 n, .slice rR.a rR.len rR.cap] :: lli cs s :: lli cs rO :: lli cs rR :: lb m sm :: li (bitsL m) rB :: llo (assignF n cs l).1.2 rA :: cl b23 ty_formula_Formula [.int .i64 (assignF n cs l).1.1, .slice rA.a rA.len rA.cap] :: lgo (normF n cs).1.2 rN :: cl b26 ty_formula_Formula [.int .i64 (normF n cs).1.1, .slice rN.a rN.len rN.cap] :: ob (firstF n cs).1 rF :: G') → At h' (lli [] r) →
      (∀ h2, Ext [] h' h2 → K true h2) → (ldA (.cons (.int .i64) (.cons .sl .nil)) (⟨b, 0, none⟩ : Addr) fun x71 => ldA (.cons (.int .i64) (.cons .sl .nil)) (⟨b39, 0, none⟩ : Addr) fun x72 => callT Tryz.prog fn_formula_Same #[(.agg #[(.int .i64 x71.1), (.slice x71.2.1.a x71.2.1.len x71.2.1.cap)]), (.agg #[(.int .i64 x72.1), (.slice x72.2.1.a x72.2.1.len x72.2.1.cap)])] .bool K) h' := fun {b r h' K} st hb hr hK => by
    obtain ⟨_, _, kb⟩ := st.fzm hb
    refine ldF (s := r) kb ?_
    refine ldF (s := ⟨none, 0, 0⟩) (st.blk 0 rfl) ?_
    refine call_of (Same_c (n := 0) (n2 := 0) (s2 := ⟨none, 0, 0⟩) hr (nil_lli (h := h')) (by simp) (fun c hc => by cases hc)) ?_
    rintro _ h2 ⟨er, x⟩
    have er : _ = true := er.trans (by simp)
    subst er
    exact hK h2 x
  by_cases he : (checkP n cs).2 = 0
  · have hg := check_good.1 he
    obtain ⟨hv0, hv1⟩ := good_vars hg
    refine brF (by rw [he]; rfl) ?_
    rw [ld_int (i := 0) (st.fblk 0 rfl) rfl]
    have lm := rsl_len (st.fz 6 rfl)
    -- what Value and Fails say
    refine jn_mid (M := fun (t : Bool × Unit) h' => Hs [([], h)] (cl bF ty_formula_Formula [.int .i64 n, .slice s.a s.len s.cap] :: cl bO ty_formula_Formula [.int .i64 n, .slice rO.a rO.len rO.cap] :: cl bR ty_salvorref05_Formula [.int .i64 n, .slice rR.a rR.len rR.cap] :: lli cs s :: lli cs rO :: lli cs rR :: lb m sm :: li (bitsL m) rB :: llo (assignF n cs l).1.2 rA :: cl b23 ty_formula_Formula [.int .i64 (assignF n cs l).1.1, .slice rA.a rA.len rA.cap] :: lgo (normF n cs).1.2 rN :: cl b26 ty_formula_Formula [.int .i64 (normF n cs).1.1, .slice rN.a rN.len rN.cap] :: ob (firstF n cs).1 rF :: G') [cl b39 ty_formula_Formula [.int .i64 0, .slice none 0 0]] h') ?_ ?_
    rotate_left
    · intro J hJ
      by_cases hmn : (m.length : Int) = n
      · refine brF (by rw [lm]; simpa using hmn) ?_
        have hgm : ∀ c ∈ cs, rightC c = true ∧ ∀ x ∈ c, beyP (m.length : Int) x = false := by rw [hmn]; exact hg.2.2
        refine ldF (s := rR) (st.fblk 2 rfl) ?_
        refine call_of (rfails_c (n := n) (m := m) (st.fz 5 rfl) (st.fz 7 rfl) hc2 hl hgm) ?_
        rintro _ h24 ⟨rfl, x24⟩
        have st := st.ext x24
        have ef : failsP n cs m = if failsGo m 0 cs ≥ 0 then (failsGo m 0 cs, true, 0) else (0, false, 0) := by unfold failsP; rw [if_neg (by simp [he]), if_neg (by simpa using hmn)]
        have hge := failsGo_ge (m := m) (cs := cs) (i := 0)
        by_cases hf : failsGo m 0 cs ≥ 0
        · rw [if_pos hf] at ef
          have ev : valueP n cs m = (false, 0) := by unfold valueP; rw [ef]; rfl
          rw [ef, ev]
          refine jn_in fun J1 hJ1 => brF (show (IntKind.wrap .i64 ((0 : Int) + 0) != 0) = false by decide) (hJ1 _ _ ?_)
          refine jn_in fun J2 hJ2 => brF (by rw [decide_eq_false (show ¬ failsGo m 0 cs < 0 by omega)]; rfl) (hJ2 _ _ ?_)
          refine jn_in fun J3 hJ3 => brF (by rw [decide_eq_true hf]; rfl) (hJ3 _ _ (brF ?_ (hJ _ _ st)))
          rw [if_neg (by omega)]; simp
        · rw [if_neg hf] at ef
          have ev : valueP n cs m = (true, 0) := by unfold valueP; rw [ef]; rfl
          rw [ef, ev]
          refine jn_in fun J1 hJ1 => brF (show (IntKind.wrap .i64 ((0 : Int) + 0) != 0) = false by decide) (hJ1 _ _ ?_)
          refine jn_in fun J2 hJ2 => brF (by rw [decide_eq_true (show failsGo m 0 cs < 0 by omega)]; rfl) (hJ2 _ _ ?_)
          refine jn_in fun J3 hJ3 => brF (by rw [decide_eq_false hf]; rfl) (hJ3 _ _ (brF ?_ (hJ _ _ st)))
          rw [if_pos (by omega)]; rfl
      · refine brT (by rw [lm]; simpa using hmn) ?_
        have ef : failsP n cs m = (0, false, 52) := by unfold failsP; rw [if_neg (by simp [he]), if_pos hmn]
        have ev : valueP n cs m = (false, 52) := by unfold valueP; rw [ef]; rfl
        rw [ef, ev]
        refine jn_in fun J1 hJ1 => brF rfl (hJ1 _ _ ?_)
        refine jn_in fun J2 hJ2 => brF rfl (hJ2 _ _ ?_)
        refine jn_in fun J3 hJ3 => brF rfl (hJ3 _ _ ?_)
        exact jn_in fun J4 hJ4 => brF rfl (hJ4 _ _ (brF rfl (hJ _ _ st)))
    clear st
    rintro t79 h24 st
    -- is it a literal of the formula's variables?
    refine jn_mid (M := fun (t : Bool) h' => (t = true ↔ l = 0 ∨ l < -n) ∧ h' = h24) ?_ ?_
    rotate_left
    · intro J hJ
      by_cases h0 : l = 0
      · exact brT (by simpa using h0) (hJ _ _ ⟨by simp [h0], rfl⟩)
      · refine brF (by simpa using h0) ?_
        rw [ld_int (i := 0) (st.fblk 0 rfl) rfl, wrap_i64 (by omega) (by omega)]
        refine hJ _ _ ⟨?_, rfl⟩
        rw [decide_eq_true_iff]
        constructor
        · intro q; right; have q : l < 0 - n := q; omega
        · rintro (q | q)
          · exact absurd q h0
          · show l < 0 - n; omega
    rintro t81 h25 ⟨ht81, e⟩; subst e
    refine jn_mid (M := fun (t : Bool) h' => (t = true ↔ beyP n l = true) ∧ h' = h25) ?_ ?_
    rotate_left
    · intro J hJ
      cases t81 with
      | true => exact brT rfl (hJ _ _ ⟨by rw [bey_lit hv0 hv1]; simp only [true_iff]; exact (ht81.1 rfl).elim .inl fun q => .inr (.inl q), rfl⟩)
      | false =>
        refine brF rfl ?_
        rw [ld_int (i := 0) (st.fblk 0 rfl) rfl]
        refine hJ _ _ ⟨?_, rfl⟩
        rw [bey_lit hv0 hv1, decide_eq_true_iff]
        constructor
        · exact fun q => .inr (.inr q)
        · rintro (q | q | q)
          · have := ht81.2 (.inl q); cases this
          · have := ht81.2 (.inr q); cases this
          · exact q
    rintro t83 h26 ⟨ht83, e⟩; subst e
    have eq83 : t83 = beyP n l := by rw [Bool.eq_iff_iff]; exact ht83
    subst eq83
    clear ht81 ht83
    refine jn_mid (M := fun (t : Bool × Unit) h' => Hs [([], h)] (cl bF ty_formula_Formula [.int .i64 n, .slice s.a s.len s.cap] :: cl bO ty_formula_Formula [.int .i64 n, .slice rO.a rO.len rO.cap] :: cl bR ty_salvorref05_Formula [.int .i64 n, .slice rR.a rR.len rR.cap] :: lli cs s :: lli cs rO :: lli cs rR :: lb m sm :: li (bitsL m) rB :: llo (assignF n cs l).1.2 rA :: cl b23 ty_formula_Formula [.int .i64 (assignF n cs l).1.1, .slice rA.a rA.len rA.cap] :: lgo (normF n cs).1.2 rN :: cl b26 ty_formula_Formula [.int .i64 (normF n cs).1.1, .slice rN.a rN.len rN.cap] :: ob (firstF n cs).1 rF :: G') [cl b39 ty_formula_Formula [.int .i64 0, .slice none 0 0]] h') ?_ ?_
    rotate_left
    · intro J hJ
      cases hb : beyP n l
      · have ea : assignF n cs l = ((n, assignL l cs), 0) := by unfold assignF; rw [if_neg (by simp [he]), if_neg (by simp [hb])]
        have hrt := (bey_rt hb).1
        refine brF rfl (brF (by rw [ea]; rfl) ?_)
        refine ldF (s := rA) (st.fblk 9 rfl) ?_
        refine ldF (s := rR) (st.fblk 2 rfl) ?_
        refine call_of (rassign_c (n := n) (st.fz 5 rfl) hrt hl hc) ?_
        rintro _ h27 ⟨s27, rfl, n27, x27⟩
        have st := st.ext x27
        refine ckF (st.fblk 9 rfl) ?_
        have hA8 := llo_at (st.fz 8 rfl)
        have lA := assignL_len l cs
        have hrow : ∀ c ∈ assignL l cs, c.length ≤ 1048576 := fun c hcc => by
          unfold assignL at hcc
          obtain ⟨d, hd, rfl⟩ := List.mem_map.1 hcc
          exact Nat.le_trans (List.length_filter_le _ _) (hc d (List.mem_filter.1 hd).1)
        rw [show (assignF n cs l).1.2 = assignL l cs by rw [ea]] at hA8
        rw [show (assignF n cs l).1.1 = n by rw [ea]]
        refine call_of (lawEqual_c (n := n) (n2 := n) hA8 (oii_at n27.at) (by omega) hrow) ?_
        rintro _ h28 ⟨er, x28⟩
        have er : _ = true := er.trans (by simp)
        subst er
        exact brF rfl (hJ _ _ (st.ext x28))
      · have ea : assignF n cs l = ((0, []), 51) := by unfold assignF; rw [if_neg (by simp [he]), if_pos hb]
        refine brT rfl (jn_in fun J1 hJ1 => brF (by rw [ea]; rfl) ?_)
        refine noneSame (r := rA) st (by rw [ea]; simp) (by have := llo_at (st.fz 8 rfl); rw [ea] at this; exact this) fun h27 x27 => ?_
        exact hJ1 _ _ (brF rfl (hJ _ _ (st.ext x27)))
    clear st
    rintro t85 h27 st
    have en := normF_good hg
    refine brF (by rw [en]; rfl) ?_
    refine ldF (s := rN) (st.fblk 11 rfl) ?_
    refine ldF (s := rR) (st.fblk 2 rfl) ?_
    have hM : ∀ c ∈ cs, rightC c = true := fun c hcc => (hg.2.2 c hcc).1
    refine call_of (rnorm_c (n := n) (st.fz 5 rfl) hM hl) ?_
    rintro _ h28 ⟨s28, rfl, n28, x28⟩
    have st := st.ext x28
    refine ckF (st.fblk 11 rfl) ?_
    have hN10 := lgo_at (st.fz 10 rfl)
    rw [show (normF n cs).1.2 = normL cs by rw [en]] at hN10
    rw [show (normF n cs).1.1 = n by rw [en]]
    obtain ⟨s1, s2, s3⟩ := normL_spec hM
    have lN := rsg_len hN10
    have hNl : (normL cs).length ≤ cs.length := normL_le hM
    refine call_of (lawEqual_c (n := n) (n2 := n) hN10 (oii_at n28.at) (by omega) (fun c hcc => by have := rightC_len (s3 c hcc).1; omega)) ?_
    rintro _ h29 ⟨er, x29⟩
    have er : _ = true := er.trans (by simp)
    subst er
    have st := st.ext x29
    refine brF rfl ?_
    rw [ld_int (i := 0) (st.fblk 0 rfl) rfl]
    by_cases h16 : n > 16
    · refine brT (decide_eq_true h16) ?_
      have ec : countF n cs = (0, 5) := by unfold countF; rw [if_neg (by simp [he]), if_pos h16]
      have ef : firstF n cs = ([], false, 5) := by unfold firstF; rw [if_neg (by simp [he]), if_pos h16]
      have er : r32 = (.nilFunc, 5, ()) := by
        rcases hres with ⟨q, _⟩ | ⟨_, _, e, _⟩ | ⟨v, b, s', q, _, q2, _⟩
        · exact absurd he q
        · exact e
        · omega
      subst er
      have lF0 : (rF.len : Int) = 0 := by rw [lF, ef]; rfl
      rw [ec, ef]
      refine jn_in fun J1 hJ1 => brT rfl (hJ1 _ _ ?_)
      refine jn_in fun J2 hJ2 => brT (by simpa using lF0) (hJ2 _ _ ?_)
      refine jn_in fun J3 hJ3 => brT rfl (nilFn_in (hJ3 _ _ ?_))
      refine jn_in fun J4 hJ4 => brT rfl (hJ4 _ _ ?_)
      refine jn_in fun J5 hJ5 => brT rfl (hJ5 _ _ ?_)
      exact jn_in fun J6 hJ6 => brT rfl (hJ6 _ _ (hK _ (st.frame (by simp))))
    · refine brF (decide_eq_false h16) ?_
      obtain ⟨v, b, s', hv, hr, hG'⟩ : ∃ (v b : Nat) (s' : Sl), n = v ∧ r32 = (modV b, 0, ()) ∧ G' = [cF b v s', lli cs s'] := by
        rcases hres with ⟨q, _⟩ | ⟨_, q, _, _⟩ | ⟨v, b, s', q, _, _, e, e2⟩
        · exact absurd he q
        · exact absurd q h16
        · exact ⟨v, b, s', q, e, e2⟩
      subst hr hG' hv
      rw [ld_int (i := 0) (st.fblk 0 rfl) rfl]
      refine jn_in fun J1 hJ1 => ?_
      by_cases h8 : (v : Int) > 8
      · exact brT (decide_eq_true h8) (hJ1 _ _ (hK _ (st.frame (by simp))))
      refine brF (decide_eq_false h8) ?_
      have ec : countF (v : Int) cs = (((modelsF v cs).length : Int), 0) := by unfold countF; rw [if_neg (by simp [he]), if_neg h16]; rfl
      have ef : firstF (v : Int) cs = ((modelsF v cs).headD [], decide (0 < (modelsF v cs).length), 0) := by
        unfold firstF
        rw [if_neg (by simp [he]), if_neg h16, Int.toNat_natCast]
        cases modelsF v cs <;> rfl
      rw [ec, ef]
      refine jn_in fun J2 hJ2 => brT (show (IntKind.wrap .i64 (IntKind.wrap .i64 ((0 : Int) + 0) + 0) == 0) = true by decide) (modFn_in (hJ2 _ _ ?_))
      refine jn_in fun J3 hJ3 => brT rfl ?_
      refine ldF (s := rR) (st.fblk 2 rfl) ?_
      have hF12 := (st.fz 12 rfl).rsl
      rw [ef] at hF12
      refine call_of (lawModels_c (v := v) (st.fz 13 rfl) (st.fz 14 rfl) (st.fz 5 rfl) hF12 hg (by omega) rfl) ?_
      rintro _ h30 ⟨rfl, x30⟩
      exact hJ3 _ _ (hJ1 _ _ (hK _ ((st.ext x30).frame (by simp))))
  · -- what is no formula
    refine brT (by simpa using he) ?_
    have ef : failsP n cs m = (0, false, (checkP n cs).2) := by unfold failsP; rw [if_pos he]
    have ev : valueP n cs m = (false, (checkP n cs).2) := by unfold valueP; rw [ef]; simp only; rw [if_neg he]
    have ea : assignF n cs l = ((0, []), (checkP n cs).2) := by unfold assignF; rw [if_pos he]
    have en : normF n cs = ((0, []), (checkP n cs).2) := by unfold normF; rw [if_pos he]
    have ec : countF n cs = (0, (checkP n cs).2) := by unfold countF; rw [if_pos he]
    have efi : firstF n cs = ([], false, (checkP n cs).2) := by unfold firstF; rw [if_pos he]
    have er : r32 = (.nilFunc, (checkP n cs).2, ()) := by
      rcases hres with ⟨_, e, _⟩ | ⟨q, _⟩ | ⟨v, b, s', _, q, _⟩
      · exact e
      · exact absurd q he
      · exact absurd q he
    subst er
    have lF0 : (rF.len : Int) = 0 := by rw [lF, efi]; rfl
    refine jn_in fun J1 hJ1 => brT (by rw [ev]; rfl) (hJ1 _ _ ?_)
    refine jn_in fun J2 hJ2 => brT (by rw [ef]; rfl) (hJ2 _ _ ?_)
    refine jn_in fun J3 hJ3 => brT (by rw [ef]; rfl) ?_
    refine noneSame (r := rA) st (by rw [ea]; simp) (by have := llo_at (st.fz 8 rfl); rw [ea] at this; exact this) fun h24 x24 => hJ3 _ _ ?_
    have st := st.ext x24
    refine jn_in fun J4 hJ4 => brT rfl ?_
    refine noneSame (r := rN) st (by rw [en]; simp) (by have := lgo_at (st.fz 10 rfl); rw [en] at this; exact this) fun h25 x25 => hJ4 _ _ ?_
    have st := st.ext x25
    refine jn_in fun J5 hJ5 => brT rfl (hJ5 _ _ ?_)
    refine jn_in fun J6 hJ6 => brT (by rw [ec]; rfl) (hJ6 _ _ ?_)
    refine jn_in fun J7 hJ7 => brT (by simpa using lF0) (hJ7 _ _ ?_)
    refine jn_in fun J8 hJ8 => brT (by rw [efi]; rfl) (nilFn_in (hJ8 _ _ ?_))
    refine jn_in fun J9 hJ9 => brT rfl (hJ9 _ _ ?_)
    refine jn_in fun J10 hJ10 => brT (by rw [ev]; simp) (hJ10 _ _ ?_)
    refine jn_in fun J11 hJ11 => brT (by rw [ef]; simp) (hJ11 _ _ ?_)
    refine jn_in fun J12 hJ12 => brT (by rw [ea]; simp) (hJ12 _ _ ?_)
    refine jn_in fun J13 hJ13 => brT (by rw [en]; simp) (hJ13 _ _ ?_)
    refine jn_in fun J14 hJ14 => brT (by rw [ec]; simp) (hJ14 _ _ ?_)
    refine jn_in fun J15 hJ15 => brT (by rw [efi]; simp) (hJ15 _ _ ?_)
    simp only [beq_self_eq_true]
    exact hK _ (st.frame (by simp))

end Go.Proofs.S
