/-
  CrashValid, walked.
-/
import Derived.Test.YtchedlkmgahicaaCrW1
import Derived.Test.YtchedlkmgahicaaSxRp
set_option linter.unusedVariables false
set_option linter.unusedSimpArgs false
namespace Go.Proofs.S
open Go Go.Sx Go.Proofs Go.Cr Go.Cl

variable {h : Heap} {l : List Ent} {k k2 : List Bool} {m m2 : List Int} {s s2 s3 : Sl} {fr : Fr} {G As : List Asn}

theorem mul_c {a b : Nat} (ha : a < 4294967296) (hb : b < 4294967296) (hab : a * b < 4294967296) :
    callT Try.prog fn_math_bits_Mul #[.int .u64 (a : Int), .int .u64 (b : Int)] (.tup (.cons (.int .u64) (.cons (.int .u64) .nil))) (fun r h' => r = (0, ((a * b : Nat) : Int), ()) ∧ h' = h) h := by
  refine callT_gen fun K hK => S_math_bits_Mul (a0 := (a : Int)) (a1 := (b : Int)) K ?_
  unfold F_math_bits_Mul
  refine call_of (R := fun r h' => r = (0, ((a * b : Nat) : Int), ()) ∧ h' = h) ?_ ?_
  · refine callT_gen fun K hK => S_math_bits_Mul64 (a0 := (a : Int)) (a1 := (b : Int)) K ?_
    unfold F_math_bits_Mul64
    refine ⟨by decide, by decide, by decide, by decide, by decide, ?_⟩
    rw [mul64_hi ha hb hab, ← Int.natCast_mul, wrapu (x := ((a * b : Nat) : Int)) (by omega) (by omega)]
    exact hK _ _ ⟨rfl, rfl⟩
  · rintro r h' ⟨rfl, rfl⟩
    exact hK _ _ ⟨rfl, rfl⟩

theorem Hs.repeat_true {K : Sl → HP} (st : Hs fr G As h) {n : Nat} (hn : n ≤ 4096) (ka : Nat) (hka : As[ka]? = some (ob [true] s)) (hK : ∀ s' h', Hs fr G (As ++ [ob (List.replicate n true) s']) h' → K s' h') :
    callT Try.prog fn_slices_Repeat_bool_bool #[.slice s.a s.len s.cap, .int .i64 (n : Int)] .sl K h := by
  refine S_slices_Repeat_bool_bool (a0 := s) (a1 := (n : Int)) K ?_
  unfold F_slices_Repeat_bool_bool
  have hkal := (List.getElem?_eq_some_iff.1 hka).1
  have l1 : s.len = 1 := osl_len (st.own ka hka)
  refine jn_in fun J hJ => ?_
  rw [decide_eq_false (show ¬ (n : Int) < 0 by omega), brB_false]
  refine hJ _ _ ?_
  have e1 : IntKind.wrap .u64 (s.len : Int) = ((1 : Nat) : Int) := by rw [l1]; decide
  have e2 : IntKind.wrap .u64 (n : Int) = (n : Int) := wrapu (by omega) (by omega)
  rw [e1, e2]
  refine call_of (mul_c (a := 1) (b := n) (by decide) (by omega) (by omega)) ?_
  rintro _ hq ⟨rfl, rfl⟩
  simp only [Nat.one_mul]
  rw [show decide ((0 : Int) > 0) = false from rfl, brB_false]
  refine jn_in fun J2 hJ2 => ?_
  rw [decide_eq_false (show ¬ (n : Int) > 9223372036854775807 by omega), brB_false]
  refine hJ2 _ _ ?_
  rw [wrap_i64 (x := (n : Int)) (by omega) (by omega)]
  refine Hs.mks1 (τ := .bool) (z := false) st (by omega) (by decide) fun s5 h2 st => ?_
  have l5 : s5.len = n := by rw [osl_len (st.own As.length (lastA _ _))]; simp
  have hy : At h2 (lb [true] s) := (st.own ka (by rw [List.getElem?_append_left hkal]; exact hka)).rsl
  rcases Nat.eq_zero_or_pos n with h0 | h0
  · subst h0
    refine cpy_nil (τ := .bool) (ys := [true]) (s := s5) (s2 := s) l5 hy ?_
    refine lfp_inv (fun σ h' => σ = (0, ()) ∧ h' = h2) (fun _ => 0) ⟨rfl, rfl⟩ ?_
    rintro σ h' X ⟨rfl, rfl⟩ hX
    simp only
    rw [decide_eq_false (show ¬ (0 : Int) < (s5.len : Int) by omega), brB_false]
    exact hK _ _ st
  · have hlast : (As ++ [osl ty_bool Ty.bool.enc (List.replicate n false) s5])[As.length]? = some (osl ty_bool Ty.bool.enc (List.replicate n false) s5) := lastA _ _
    refine Hs.cpyP (τ := .bool) (ys := [true]) (s2 := s) st As.length hlast hy (by simp; omega) leaf_bool fun h3 st => ?_
    rw [setL] at st
    have e3 : [true] ++ (List.replicate n false).drop [true].length = true :: List.replicate (n - 1) false := by simp
    rw [e3] at st
    have := Hs.repLoop (τ := .bool) (K := K) (n := n) (v := true) (z := false) st As.length h0 (by omega) (lastA _ _) leaf_bool fun h4 st => ?_
    · exact this
    · rw [setL] at st
      exact hK _ _ st

/-! ### both, one -/

theorem needs_and (ha : Needs l k) (hb : Needs l k2) {c : List Bool} (hc : ∀ i, i < l.length → Cr.K c i = (Cr.K k i && Cr.K k2 i)) : Needs l c := by
  intro i hi hk j hj hlt
  rw [hc i hi, Bool.and_eq_true] at hk
  rw [hc j hj, ha i hi hk.1 j hj hlt, hb i hi hk.2 j hj hlt]; rfl
theorem needs_or (ha : Needs l k) (hb : Needs l k2) {c : List Bool} (hc : ∀ i, i < l.length → Cr.K c i = (Cr.K k i || Cr.K k2 i)) : Needs l c := by
  intro i hi hk j hj hlt
  rw [hc i hi, Bool.or_eq_true] at hk
  rw [hc j hj]
  rcases hk with hk | hk
  · rw [ha i hi hk j hj hlt]; rfl
  · rw [hb i hi hk j hj hlt, Bool.or_true]
/-- Without one entry. -/
theorem less_iff (ha : Needs l k) (hk : k.length = l.length) {i : Nat} (hi : i < l.length) (hki : Cr.K k i = true) :
    vld l (k.set i false) = !((List.range l.length).any fun m => Cr.K k m && decide (E l m > E l i)) := by
  have hset : ∀ j, Cr.K (k.set i false) j = if j = i then false else Cr.K k j := by
    intro j
    unfold Cr.K
    rw [List.getD_eq_getElem?_getD, List.getElem?_set]
    by_cases e : i = j
    · subst e; rw [if_pos rfl, if_pos (by omega), if_pos rfl]; rfl
    · rw [if_neg e, if_neg (fun h => e h.symm), List.getD_eq_getElem?_getD]
  rw [Bool.eq_iff_iff, Bool.not_eq_true', vld_iff]
  constructor
  · intro h
    rw [List.any_eq_false]
    intro m hm hh
    have hm := List.mem_range.1 hm
    simp only [Bool.and_eq_true, decide_eq_true_eq] at hh
    have hne : m ≠ i := by rintro rfl; omega
    have := h m hm (by rw [hset, if_neg hne]; exact hh.1) i hi (by omega)
    rw [hset, if_pos rfl] at this; cases this
  · intro h p hp hkp j hj hlt
    rw [List.any_eq_false] at h
    rw [hset] at hkp ⊢
    by_cases e : p = i
    · rw [if_pos e] at hkp; cases hkp
    · rw [if_neg e] at hkp
      by_cases e2 : j = i
      · exfalso
        subst e2
        exact h p (List.mem_range.2 hp) (by simp [hkp]; omega)
      · rw [if_neg e2]; exact ha p hp hkp j hj hlt

abbrev dp (l : List Ent) (k : List Bool) (i : Nat) : List (List Bool) := (List.range i).filterMap (fun i => if Cr.K k i && vld l (k.set i false) then some (k.set i false) else none)
theorem dp_prefix {i n : Nat} (h : i ≤ n) : ∃ R, dp l k n = dp l k i ++ R := by
  obtain ⟨d, rfl⟩ := Nat.exists_eq_add_of_le h
  refine ⟨((List.range d).map (i + ·)).filterMap (fun i => if Cr.K k i && vld l (k.set i false) then some (k.set i false) else none), ?_⟩
  unfold dp
  rw [List.range_add, List.filterMap_append]

theorem anyr_succ (f : Nat → Bool) (j : Nat) : (List.range (j + 1)).any f = ((List.range j).any f || f j) := by rw [List.range_succ, List.any_append]; simp

theorem crashValid_F {c c3 c4 : List Int} {p q : Nat} {s3 s4 : Sl} (hA : At h (lu c s)) (hA3 : At h (lu c3 s3)) (hA4 : At h (lu c4 s4)) (hu : U8 c) (hu3 : U8 c3) (hu4 : U8 c4) (hp : p ≤ 255) (hq : q ≤ 255)
    (K : Bool → HP) (hK : ∀ x h', (x = true ∧ Ext [] h h') → K x h') : F_salvorlaw35_CrashValid s p q s3 s4 K h := by
  unfold F_salvorlaw35_CrashValid
  have st := Hs.start h [lu c s, lu c3 s3, lu c4 s4] (by simp [hA, hA3, hA4])
  refine call_of awake_c ?_
  rintro _ h1 ⟨rfl, x1⟩
  have st := st.ext x1
  simp only [Bool.not_true, brB_false]
  refine call_of (made_c (most := 24) (st.fz 0 rfl) hu (by decide)) ?_
  rintro r1 h2 ⟨n2, x2⟩
  have st := st.new x2 n2
  have st := (st.imp 0 rfl (A' := le (madeL c 24) r1) fun S h q => osn_rsn wideE q).freeze 0 rfl
  simp only [List.nil_append, List.cons_append, List.set_cons_zero, List.eraseIdx_cons_zero] at st
  have hr := madeL_right hu (most := 24) (by decide)
  have hlen : (madeL c 24).length ≤ 24 := by rw [madeL_len]; omega
  clear n2
  generalize madeL c 24 = l at *
  have hm := right_mono hr
  have l1 := rsn_len (st.fz 3 rfl)
  refine call_of (mades_c (st.fz 3 rfl) (st.fz 1 rfl) hu3 hp (by omega)) ?_
  rintro r2 h3 ⟨n3, x3⟩
  have st := (st.new x3 n3).freeze 0 rfl
  simp only [List.nil_append, List.cons_append, List.eraseIdx_cons_zero] at st
  refine call_of (mades_c (st.fz 3 rfl) (st.fz 2 rfl) hu4 hq (by omega)) ?_
  rintro r3 h4 ⟨n4, x4⟩
  have st := (st.new x4 n4).freeze 0 rfl
  simp only [List.nil_append, List.cons_append, List.eraseIdx_cons_zero] at st
  have va := madeS_valid hm p c3
  have vb := madeS_valid hm q c4
  have la := madeS_len l p c3
  have lb' := madeS_len l q c4
  clear n3 n4
  generalize madeS l p c3 = a at *
  generalize madeS l q c4 = b at *
  refine call_of (picked_c (n := r1.len) (st.fz 1 rfl) hu3 (by omega)) ?_
  rintro r4 h5 ⟨n5, x5⟩
  rw [l1] at n5
  have lk := pickP_len c3 l.length
  have st := (st.new x5 n5).freeze 0 rfl
  simp only [List.nil_append, List.cons_append, List.eraseIdx_cons_zero] at st
  clear n5
  generalize pickP c3 l.length = y at *
  refine Hs.clone_bool st (st.fz 4 rfl).rsl (by omega) fun r5 h6 st => ?_
  refine Hs.clone_bool st (st.fz 4 rfl).rsl (by omega) fun r6 h7 st => ?_
  simp only [List.nil_append, List.cons_append] at st
  have l2 := osl_len (st.fz 4 rfl)
  have chk : ∀ z : List Bool, z.length = l.length → checkC l z = 0 := fun z hz => by simp [checkC, hr, hz]
  -- both, one
  refine lfp_invh (I := fun μ σ h' => ∃ i : Nat, σ = ((i : Int), ()) ∧ i ≤ l.length ∧ Hs [([], h)] [lu c s, lu c3 s3, lu c4 s4, le l r1, ob a r2, ob b r3, ob y r4]
      [ob ((List.range i).map (fun j => Cr.K a j && Cr.K b j) ++ a.drop i) r5, ob ((List.range i).map (fun j => Cr.K a j || Cr.K b j) ++ a.drop i) r6] h' ∧ μ = l.length - i) ⟨_, 0, rfl, by omega, st, rfl⟩ ?_
  clear st
  rintro μ σ h8 X ⟨i, rfl, hi, st, em⟩ hX
  simp only
  by_cases hlt : i < l.length
  · rw [decide_eq_true (show (i : Int) < (r2.len : Int) by omega), brB_true, inc_i (show i < 4611686018427387904 by omega)]
    have fin : ∀ u v : Bool, u = (Cr.K a i && Cr.K b i) → v = (Cr.K a i || Cr.K b i) → ∀ h', Hs [([], h)] [lu c s, lu c3 s3, lu c4 s4, le l r1, ob a r2, ob b r3, ob y r4]
        [ob (((List.range i).map (fun j => Cr.K a j && Cr.K b j) ++ a.drop i).set i u) r5, ob (((List.range i).map (fun j => Cr.K a j || Cr.K b j) ++ a.drop i).set i v) r6] h' → X (((i + 1 : Nat) : Int), ()) h' := by
      rintro u v rfl rfl h' st
      have hd : a.drop i = a[i]'(by omega) :: a.drop (i + 1) := List.drop_eq_getElem_cons (by omega)
      have e : ∀ f : Nat → Bool, ((List.range i).map f ++ a.drop i).set i (f i) = (List.range (i + 1)).map f ++ a.drop (i + 1) := fun f => by
        rw [hd, List.set_append_right _ _ (by simp), List.length_map, List.length_range, Nat.sub_self, List.set_cons_zero, List.range_succ, List.map_append, List.append_assoc]; rfl
      rw [e (fun j => Cr.K a j && Cr.K b j), e (fun j => Cr.K a j || Cr.K b j)] at st
      exact hX _ _ _ ⟨i + 1, rfl, by omega, st, rfl⟩ (by omega)
    have hla : ∀ f : Nat → Bool, i < ((List.range i).map f ++ a.drop i).length := fun f => by simp; omega
    have rda : ∀ {h' : Heap} {As : List Asn} {K1 : Bool → HP}, Hs [([], h)] [lu c s, lu c3 s3, lu c4 s4, le l r1, ob a r2, ob b r3, ob y r4] As h' → K1 (Cr.K a i) h' → sx r2.a r2.len (i : Int) 1 (fun p => ldT .bool p K1) h' := fun st hk =>
      rdE (τ := .bool) (st.fz 4 rfl).rsl (show i < a.length by omega) (by rw [← K_get (show i < a.length by omega)]; exact hk)
    have rdb : ∀ {h' : Heap} {As : List Asn} {K1 : Bool → HP}, Hs [([], h)] [lu c s, lu c3 s3, lu c4 s4, le l r1, ob a r2, ob b r3, ob y r4] As h' → K1 (Cr.K b i) h' → sx r3.a r3.len (i : Int) 1 (fun p => ldT .bool p K1) h' := fun st hk =>
      rdE (τ := .bool) (st.fz 5 rfl).rsl (show i < b.length by omega) (by rw [← K_get (show i < b.length by omega)]; exact hk)
    refine rda st ?_
    cases hka : Cr.K a i with
    | true =>
      rw [brB_true]
      refine rdb st ?_
      refine rda st ?_
      rw [hka, brB_true]
      refine st.wrE (τ := .bool) 0 rfl (hla _) _ fun h9 st => ?_
      refine st.wrE (τ := .bool) 1 rfl (hla _) _ fun h10 st => fin _ _ (by rw [hka, Bool.true_and]) (by rw [hka, Bool.true_or]) _ st
    | false =>
      rw [brB_false]
      refine rda st ?_
      rw [hka, brB_false]
      refine rdb st ?_
      refine st.wrE (τ := .bool) 0 rfl (hla _) _ fun h9 st => ?_
      refine st.wrE (τ := .bool) 1 rfl (hla _) _ fun h10 st => fin _ _ (by rw [hka, Bool.false_and]) (by rw [hka, Bool.false_or]) _ st
  rw [decide_eq_false (show ¬ (i : Int) < (r2.len : Int) by omega), brB_false]
  have ei : i = l.length := by omega
  subst ei
  clear hX hlt hi em X
  have hAnd : ∀ i, i < l.length → Cr.K ((List.range l.length).map (fun j => Cr.K a j && Cr.K b j) ++ a.drop l.length) i = (Cr.K a i && Cr.K b i) := fun i hi => by
    rw [K_app_lo (by simp; exact hi), K_get (by simp; exact hi)]; simp
  have hOr : ∀ i, i < l.length → Cr.K ((List.range l.length).map (fun j => Cr.K a j || Cr.K b j) ++ a.drop l.length) i = (Cr.K a i || Cr.K b i) := fun i hi => by
    rw [K_app_lo (by simp; exact hi), K_get (by simp; exact hi)]; simp
  have vand := needs_and va vb hAnd
  have vor := needs_or va vb hOr
  have land : ((List.range l.length).map (fun j => Cr.K a j && Cr.K b j) ++ a.drop l.length).length = l.length := by simp; omega
  have lor : ((List.range l.length).map (fun j => Cr.K a j || Cr.K b j) ++ a.drop l.length).length = l.length := by simp; omega
  clear hAnd hOr
  generalize (List.range l.length).map (fun j => Cr.K a j && Cr.K b j) ++ a.drop l.length = both at *
  generalize (List.range l.length).map (fun j => Cr.K a j || Cr.K b j) ++ a.drop l.length = one at *
  refine st.nw fun b29 h9 st => ?_
  have st := st.asSl 2 Ty.bool.enc [true] rfl rfl
  simp only [List.nil_append, List.cons_append, List.set_cons_zero, List.set_cons_succ] at st
  refine Hs.repeat_true (s := ⟨some ⟨b29, 0, none⟩, 1, 1⟩) (n := r1.len) st (by omega) 2 rfl fun r30 h10 st => ?_
  rw [l1] at st
  refine Hs.mks1 (τ := .bool) (n := r1.len) (z := false) st (by omega) (by decide) fun s31 h11 st => ?_
  rw [l1] at st
  refine st.nw fun b32 h12 st => ?_
  simp only [List.nil_append, List.cons_append] at st
  have hrow : At h12 (rsg (fun c p => lb c p) [a, b, both, one, List.replicate l.length true, List.replicate l.length false] ⟨some ⟨b32, 0, none⟩, 6, 6⟩) := by
    refine rsg_at (ps := [r2, r3, r5, r6, r30, s31]) rfl ⟨[b32], osl_rsl (t := ty_sl_bool) (.inl ⟨b32, [], rfl, rfl, (by rw [List.append_nil]; exact st.blk 5 rfl)⟩)⟩ fun i h1 h2 => ?_
    match i, h1 with
    | 0, _ => exact (st.fz 4 rfl).rsl
    | 1, _ => exact (st.fz 5 rfl).rsl
    | 2, _ => exact (st.own 0 rfl).rsl
    | 3, _ => exact (st.own 1 rfl).rsl
    | 4, _ => exact (st.own 3 rfl).rsl
    | 5, _ => exact (st.own 4 rfl).rsl
    | n + 6, h => exact absurd h (by simp)
  have hval : ∀ z ∈ [a, b, both, one, List.replicate l.length true, List.replicate l.length false], z.length = l.length ∧ Needs l z := by
    intro z hz
    simp only [List.mem_cons, List.not_mem_nil, or_false] at hz
    rcases hz with rfl | rfl | rfl | rfl | rfl | rfl
    · exact ⟨la, va⟩
    · exact ⟨lb', vb⟩
    · exact ⟨land, vand⟩
    · exact ⟨lor, vor⟩
    · exact ⟨by simp, all_valid l⟩
    · exact ⟨by simp, none_valid l⟩
  generalize hR : [a, b, both, one, List.replicate l.length true, List.replicate l.length false] = R at *
  have hRl : R.length = 6 := by rw [← hR]; rfl
  refine lfp_invh (I := fun μ σ h' => ∃ i : Nat, σ = ((i : Int), false, ()) ∧ i ≤ 6 ∧ Ext [] h12 h' ∧ μ = 6 - i) ⟨_, 0, rfl, by omega, Ext.refl' _ _, rfl⟩ ?_
  rintro μ σ h13 X ⟨i, rfl, hi, x13, em⟩ hX
  have st := st.ext x13
  simp only
  by_cases hlt : i < 6
  · rw [decide_eq_true (show (i : Int) < 6 by omega), brB_true, inc_i (show i < 4611686018427387904 by omega)]
    refine rdG (hrow.ext x13) (show i < R.length by omega) fun p36 hp36 => ?_
    refine call_of (Valid_c (st.fz 3 rfl) hp36 (by omega)) ?_
    rintro r h14 ⟨er, x14⟩
    obtain ⟨z1, z2⟩ := hval _ (List.getElem_mem (show i < R.length by omega))
    have er : r = (true, 0, ()) := by rw [er, validP, if_pos (chk _ z1), vld_iff.2 z2]
    subst er
    simp only [Bool.not_true, brB_false]
    rw [show ((0 : Int) != 0) = false from rfl, brB_false]
    exact hX _ _ _ ⟨i + 1, rfl, by omega, x13.nil_trans x14, rfl⟩ (by omega)
  rw [decide_eq_false (show ¬ (i : Int) < 6 by omega), brB_false]
  clear hX hlt hi em X hrow hval hR
  refine call_of (Valid_c (st.fz 3 rfl) (st.fz 6 rfl).rsl (by omega)) ?_
  rintro r h14 ⟨er, x14⟩
  subst er
  have st := st.ext x14
  refine call_of (pairs_c (st.fz 3 rfl) (st.fz 6 rfl).rsl (by omega)) ?_
  rintro r h15 ⟨er, x15⟩
  subst er
  have st := st.ext x15
  refine call_of (drop_c (st.fz 3 rfl) (st.fz 4 rfl).rsl (by omega)) ?_
  rintro r h16 ⟨s40, er, n16, x16⟩
  have ed : dropP l a = (dp l a l.length, 0) := by
    rw [dropP, if_pos (chk _ la), if_pos (vld_iff.2 va)]; rfl
  rw [ed] at er n16
  subst er
  have st := (st.new x16 n16).freeze 6 rfl
  simp only [List.nil_append, List.cons_append, List.eraseIdx_cons_zero, List.eraseIdx_cons_succ] at st
  have hv0 : (validP l y).2 = 0 := by rw [validP, if_pos (chk _ lk)]
  simp only [hv0]
  change brB false _ _ _
  rw [brB_false, show (!((validP l y).1 == (validP l y).1)) = false by simp, brB_false]
  -- the entries, one by one
  have ldd := rsg_len (st.fz 7 rfl).rsg
  refine lfp_invh (I := fun μ σ h' => ∃ i : Nat, σ = ((i : Int), ((dp l a i).length : Int), false, ()) ∧ i ≤ l.length ∧ Hs [([], h)] [lu c s, lu c3 s3, lu c4 s4, le l r1, ob a r2, ob b r3, ob y r4, osg (fun c p => ob c p) ty_sl_bool (dp l a l.length) s40] [] h' ∧ μ = l.length - i) ⟨_, 0, rfl, by omega, (((((st.drop 5 rfl).drop 4 rfl).drop 3 rfl).drop 2 rfl).drop 1 rfl).drop 0 rfl, rfl⟩ ?_
  clear st
  rintro μ σ h17 X ⟨i, rfl, hi, st, em⟩ hX
  simp only
  by_cases hlt : i < l.length
  · rw [decide_eq_true (show (i : Int) < (r2.len : Int) by omega), brB_true, inc_i (show i < 4611686018427387904 by omega)]
    refine lfp_invh (I := fun μ σ h' => ∃ j : Nat, σ = ((j : Int), (List.range j).any (fun m => Cr.K a m && decide (E l m > E l i)), ()) ∧ j ≤ l.length ∧ h' = h17 ∧ μ = l.length - j) ⟨_, 0, rfl, by omega, rfl, rfl⟩ ?_
    rintro μ2 σ h18 X2 ⟨j, rfl, hj, rfl, em2⟩ hX2
    simp only
    by_cases hlt2 : j < l.length
    · rw [decide_eq_true (show (j : Int) < (r2.len : Int) by omega), brB_true, inc_i (show j < 4611686018427387904 by omega)]
      have fin : ∀ v, v = (List.range (j + 1)).any (fun m => Cr.K a m && decide (E l m > E l i)) → X2 (((j + 1 : Nat) : Int), v, ()) h18 := by
        rintro v rfl
        exact hX2 _ _ _ ⟨j + 1, rfl, by omega, rfl, rfl⟩ (by omega)
      rw [anyr_succ] at fin
      cases hany : (List.range j).any (fun m => Cr.K a m && decide (E l m > E l i)) with
      | true => rw [brB_true]; exact fin _ (by rw [hany]; rfl)
      | false =>
        rw [brB_false]
        refine rdE (τ := .bool) (st.fz 4 rfl).rsl (show j < a.length by omega) ?_
        rw [← K_get (show j < a.length by omega)]
        cases hka : Cr.K a j with
        | true =>
          rw [brB_true]
          refine rdEp (st.fz 3 rfl) hlt2 ?_
          refine rdEp (st.fz 3 rfl) hlt ?_
          exact fin _ (by rw [hany, hka]; simp)
        | false => rw [brB_false]; exact fin _ (by rw [hany, hka]; simp)
    · rw [decide_eq_false (show ¬ (j : Int) < (r2.len : Int) by omega), brB_false]
      have ej : j = l.length := by omega
      subst ej
      have hla : a.length ≤ 1099511627776 := by omega
      refine Hs.clone_bool st (st.fz 4 rfl).rsl hla fun r51 h19 st => ?_
      simp only [List.nil_append, List.cons_append] at st
      refine st.wrE (τ := .bool) 0 rfl (show i < a.length by omega) false fun h20 st => ?_
      refine call_of (Valid_c (k := a.set i false) (st.fz 3 rfl) (st.own 0 rfl).rsl (by omega)) ?_
      rintro r h21 ⟨er, x21⟩
      have er : r = (vld l (a.set i false), 0, ()) := by rw [er, validP, if_pos (chk _ (by simpa using la))]
      subst er
      have st := st.ext x21
      rw [show ((0 : Int) != 0) = false from rfl, brB_false]
      have rda : ∀ {K1 : Bool → HP}, K1 (Cr.K a i) h21 → sx r2.a r2.len (i : Int) 1 (fun p => ldT .bool p K1) h21 := fun hk =>
        rdE (τ := .bool) (st.fz 4 rfl).rsl (show i < a.length by omega) (by rw [← K_get (show i < a.length by omega)]; exact hk)
      have fin : ∀ n : Int, n = ((dp l a (i + 1)).length : Int) → X (((i + 1 : Nat) : Int), n, false, ()) h21 := by
        rintro n rfl
        exact hX _ _ _ ⟨i + 1, rfl, by omega, st.drop 0 rfl, rfl⟩ (by omega)
      have hdp : dp l a (i + 1) = dp l a i ++ (if Cr.K a i && vld l (a.set i false) then [a.set i false] else []) := dropL_step
      refine rda ?_
      cases hka : Cr.K a i with
      | true =>
        have hli := less_iff va la hlt hka
        rw [brB_true, hli]
        rw [show ((!((List.range l.length).any fun m => Cr.K a m && decide (E l m > E l i))) == ((List.range l.length).any fun m => Cr.K a m && decide (E l m > E l i))) = false by cases (List.range l.length).any fun m => Cr.K a m && decide (E l m > E l i) <;> rfl, brB_false]
        rw [← hli]
        refine rda ?_
        rw [hka, brB_true]
        refine jn_in fun J hJ => ?_
        cases hvl : vld l (a.set i false) with
        | true =>
          rw [brB_true]
          rw [hka, hvl] at hdp
          simp only [Bool.and_self, if_true] at hdp
          obtain ⟨R, hR⟩ := dp_prefix (l := l) (k := a) (show i + 1 ≤ l.length by omega)
          rw [hdp] at hR
          have hlt3 : (dp l a i).length < (dp l a l.length).length := by rw [hR]; simp
          rw [decide_eq_false (show ¬ ((dp l a i).length : Int) ≥ (s40.len : Int) by omega), brB_false]
          refine rdG (st.fz 7 rfl).rsg hlt3 fun p60 hp60 => ?_
          have hg : (dp l a l.length)[(dp l a i).length] = a.set i false := by
            simp only [hR]
            rw [List.getElem_append_left (by simp), List.getElem_append_right (Nat.le_refl _)]; simp
          rw [hg] at hp60
          refine call_of (equal_bool (k2 := a.set i false) hp60.rsl (st.own 0 rfl).rsl (by simp; omega)) ?_
          rintro _ hq2 ⟨rfl, rfl⟩
          rw [show (!decide (a.set i false = a.set i false)) = false by simp, brB_false]
          refine hJ _ _ (fin _ ?_)
          have hle : (dp l a i).length ≤ i := filterMap_range_le _ i
          rw [hdp, inc_i (show (dp l a i).length < 4611686018427387904 by omega)]; simp
        | false =>
          rw [brB_false]
          refine hJ _ _ (fin _ ?_)
          rw [hdp, hvl]; simp
      | false =>
        rw [brB_false]
        refine rda ?_
        rw [hka, brB_false]
        refine jn_in fun J hJ => hJ _ _ (fin _ ?_)
        rw [hdp, hka]; simp
  · rw [decide_eq_false (show ¬ (i : Int) < (r2.len : Int) by omega), brB_false]
    have ei : i = l.length := by omega
    subst ei
    refine hK _ _ ⟨?_, st.frame (by simp)⟩
    rw [ldd]; simp

theorem crashValid_I {c c3 c4 : List Int} {p q : Int} {s3 s4 : Sl} (hA : At h (lu c s)) (hA3 : At h (lu c3 s3)) (hA4 : At h (lu c4 s4)) (hu : U8 c) (hu3 : U8 c3) (hu4 : U8 c4) (hp : 0 ≤ p ∧ p ≤ 255) (hq : 0 ≤ q ∧ q ≤ 255)
    (K : Bool → HP) (hK : ∀ x h', (x = true ∧ Ext [] h h') → K x h') : F_salvorlaw35_CrashValid s p q s3 s4 K h := by
  obtain ⟨p, rfl⟩ := Int.eq_ofNat_of_zero_le hp.1
  obtain ⟨q, rfl⟩ := Int.eq_ofNat_of_zero_le hq.1
  exact crashValid_F hA hA3 hA4 hu hu3 hu4 (by omega) (by omega) K hK

end Go.Proofs.S
