/-
  ClausesSmall: the walk.
-/
import Derived.Test.YtogghgcgehhcaaaClW6
import Derived.Test.YtogghgcgehhcaaaClP
set_option linter.unusedVariables false
set_option linter.unusedSimpArgs false
namespace Go.Proofs.S
open Go Go.Sx Go.Proofs Go.Cl

variable {h : Heap} {c d e : List Int} {s s2 s3 : Sl} {fr : Fr} {G As : List Asn}

theorem Hs.fzm (st : Hs fr G As h) {A : Asn} (hA : A ∈ G) : At h A := let ⟨_, _, hz, _⟩ := st; let ⟨S1, p, _⟩ := hz A hA; ⟨S1, p⟩

def five : List Int := [1, -1, 2, -2, 0]
abbrev fiveS (b : Nat) : Sl := ⟨some ⟨b, 0, none⟩, 5, 5⟩
theorem five_at {b : Nat} (hb : Blk h b ty_int [.int .i64 1, .int .i64 (-1), .int .i64 2, .int .i64 (-2), .int .i64 0]) : At h (li five (fiveS b)) := ⟨[b], osl_rsl (t := ty_int) (.inl ⟨b, [], rfl, rfl, hb⟩)⟩

theorem five_rd {b : Nat} {i : Nat} {ii : Int} (hA : At h (li five (fiveS b))) (hi : ii = ((i % 5 : Nat) : Int)) {K : Int → HP} (hK : ∀ x, K x h) : sx (some (⟨b, 0, none⟩ : Addr)) 5 ii 1 (fun p => ldT (.int .i64) p K) h := by
  subst hi
  exact rdE (τ := i64) (s := fiveS b) hA (show i % 5 < five.length from Nat.mod_lt _ (by decide)) (hK _)

theorem tmod_nat (a b : Nat) : Int.tmod (a : Int) (b : Int) = ((a % b : Nat) : Int) := by rw [Int.tmod_eq_emod_of_nonneg (by omega)]; exact (Int.natCast_emod _ _).symm
theorem tdiv_nat (a b : Nat) : Int.tdiv (a : Int) (b : Int) = ((a / b : Nat) : Int) := by rw [Int.tdiv_eq_ediv_of_nonneg (by omega)]; exact (Int.natCast_ediv _ _).symm

/-- What has been gathered: short lists, none of which turns. -/
def Short (G : List Asn) (ps : List Sl) : Prop := ∀ p ∈ ps, ∃ xs : List Int, xs.length ≤ 3 ∧ li xs p ∈ G

set_option maxRecDepth 20000 in
theorem small_gather {h0 : Heap} {b0 : Nat} (K : Int × (Sl × Unit) → HP) (st : Hs [([], h0)] [] [cl b0 ty_int [.int .i64 1, .int .i64 (-1), .int .i64 2, .int .i64 (-2), .int .i64 0]] h)
    (hK : ∀ (G : List Asn) (ps : List Sl) (s' : Sl) (h' : Heap), ps.length ≤ 500 → Short G ps → Hs [([], h0)] G [cl b0 ty_int [.int .i64 1, .int .i64 (-1), .int .i64 2, .int .i64 (-2), .int .i64 0], osl ty_sl_int Ty.sl.enc ps s'] h' → K (((125 : Nat) : Int), s', ()) h') :
    lfp (σ := (Int × (Sl × Unit))) (fun X1 s2 => brB (decide (s2.1 < (125 : Int)))
      (nz (5 : Int) <| sx (some (⟨b0, 0, none⟩ : Addr)) 5 (Int.tmod s2.1 (5 : Int)) 1 fun p3 => ldT (.int .i64) p3 fun x4 => nz (5 : Int) <| nz (5 : Int) <|
        sx (some (⟨b0, 0, none⟩ : Addr)) 5 (Int.tmod (IntKind.wrap .i64 (Int.tdiv s2.1 (5 : Int))) (5 : Int)) 1 fun p5 => ldT (.int .i64) p5 fun x6 => nz (25 : Int) <|
        sx (some (⟨b0, 0, none⟩ : Addr)) 5 (IntKind.wrap .i64 (Int.tdiv s2.1 (25 : Int))) 1 fun p7 => ldT (.int .i64) p7 fun x8 =>
        Sx.nw #[(.int .i64 x4), (.int .i64 x6), (.int .i64 x8)] ty_int fun b9 =>
        lfp (σ := (Int × (Sl × Unit))) (fun X10 s11 => brB (decide (s11.1 < (4 : Int)))
          (slH ⟨(some (⟨b9, 0, none⟩ : Addr)), 3, 3⟩ s11.1 1 fun s12 => Sx.nw #[(.slice s12.a s12.len s12.cap)] ty_sl_int fun b13 =>
            Sx.apd ty_sl_int 1 24 #[(.slice none 0 0)] ⟨s11.2.1.a, s11.2.1.len, s11.2.1.cap⟩ ⟨(some (⟨b13, 0, none⟩ : Addr)), 1, 1⟩ fun s14 => X10 ((IntKind.wrap .i64 (s11.1 + (1 : Int))), ⟨s14.a, s14.len, s14.cap⟩, ()))
          (X1 ((IntKind.wrap .i64 (s2.1 + (1 : Int))), ⟨s11.2.1.a, s11.2.1.len, s11.2.1.cap⟩, ())))
        ((0 : Int), ⟨s2.2.1.a, s2.2.1.len, s2.2.1.cap⟩, ()))
      (K s2)) ((0 : Int), ⟨none, 0, 0⟩, ()) h := by
  refine lfp_invh (I := fun m σ h' => ∃ (i : Nat) (G : List Asn) (ps : List Sl) (s' : Sl), σ = ((i : Int), s', ()) ∧ i ≤ 125 ∧ ps.length = 4 * i ∧ Short G ps ∧
      Hs [([], h0)] G [cl b0 ty_int [.int .i64 1, .int .i64 (-1), .int .i64 2, .int .i64 (-2), .int .i64 0], osl ty_sl_int Ty.sl.enc ps s'] h' ∧ m = 125 - i)
    ⟨_, 0, [], [], ⟨none, 0, 0⟩, rfl, by omega, rfl, (by intro p hp; cases hp), st.nil ty_sl_int Ty.sl.enc none, rfl⟩ ?_
  clear st
  rintro m σ h1 X ⟨i, G, ps, s', rfl, hi, hps, hsh, st, em⟩ hX
  simp only
  by_cases hlt : i < 125
  · rw [show decide ((i : Int) < 125) = true from decide_eq_true (by omega), brB_true, inc_i (show i < 4611686018427387904 by omega)]
    have h5 := five_at (st.blk 0 rfl)
    have w1 : IntKind.wrap .i64 (Int.tdiv (i : Int) 5) = ((i / 5 : Nat) : Int) := by rw [show Int.tdiv (i : Int) 5 = ((i / 5 : Nat) : Int) from tdiv_nat i 5, wrap_i64 (by omega) (by omega)]
    have w2 : IntKind.wrap .i64 (Int.tdiv (i : Int) 25) = ((i / 25 : Nat) : Int) := by rw [show Int.tdiv (i : Int) 25 = ((i / 25 : Nat) : Int) from tdiv_nat i 25, wrap_i64 (by omega) (by omega)]
    rw [w1, w2]
    refine ⟨by decide, five_rd (i := i) h5 (tmod_nat i 5) fun x4 => ⟨by decide, ⟨by decide, five_rd (i := i / 5) h5 (tmod_nat (i / 5) 5) fun x6 => ⟨by decide, five_rd (i := i / 25) h5 (by rw [Nat.mod_eq_of_lt (by omega)]) fun x8 => ?_⟩⟩⟩⟩
    refine st.nw fun b9 h2 st => ?_
    try simp only [List.nil_append, List.cons_append, List.set_cons_zero, List.set_cons_succ, List.eraseIdx_cons_zero, List.eraseIdx_cons_succ, List.length_cons, List.length_nil, Nat.zero_add, Nat.reduceAdd] at st
    have st := st.freeze 2 rfl
    try simp only [List.nil_append, List.cons_append, List.set_cons_zero, List.set_cons_succ, List.eraseIdx_cons_zero, List.eraseIdx_cons_succ, List.length_cons, List.length_nil, Nat.zero_add, Nat.reduceAdd] at st
    have hc9 : (G ++ [cl b9 ty_int [.int .i64 x4, .int .i64 x6, .int .i64 x8]])[G.length]? = some (cl b9 ty_int [.int .i64 x4, .int .i64 x6, .int .i64 x8]) := by simp
    have hin : cl b9 ty_int [.int .i64 x4, .int .i64 x6, .int .i64 x8] ∈ G ++ [cl b9 ty_int [.int .i64 x4, .int .i64 x6, .int .i64 x8]] := by simp
    have hsh : Short (G ++ [cl b9 ty_int [.int .i64 x4, .int .i64 x6, .int .i64 x8]]) ps := fun p hp => let ⟨xs, a, b⟩ := hsh p hp; ⟨xs, a, List.mem_append_left _ b⟩
    generalize G ++ [cl b9 ty_int [.int .i64 x4, .int .i64 x6, .int .i64 x8]] = G1 at *
    refine lfp_invh (I := fun m σ h' => ∃ (n : Nat) (G : List Asn) (qs : List Sl) (s' : Sl), σ = ((n : Int), s', ()) ∧ n ≤ 4 ∧ qs.length = 4 * i + n ∧ Short G qs ∧ cl b9 ty_int [.int .i64 x4, .int .i64 x6, .int .i64 x8] ∈ G ∧
        Hs [([], h0)] G [cl b0 ty_int [.int .i64 1, .int .i64 (-1), .int .i64 2, .int .i64 (-2), .int .i64 0], osl ty_sl_int Ty.sl.enc qs s'] h' ∧ m = 4 - n)
      ⟨_, 0, G1, ps, s', rfl, by omega, by omega, hsh, hin, st, rfl⟩ ?_
    clear st hsh hin hc9
    rintro m2 σ2 h3 Y ⟨n, G2, qs, s', rfl, hn, hqs, hsh, hin, st, em2⟩ hY
    simp only
    by_cases hlt2 : n < 4
    · rw [show decide ((n : Int) < 4) = true from decide_eq_true (by omega), brB_true, inc_i (show n < 4611686018427387904 by omega)]
      refine ⟨Int.natCast_nonneg _, Int.ofNat_le.2 (show n ≤ 3 by omega), ?_⟩
      rw [Int.toNat_natCast]
      obtain ⟨j, hj⟩ := List.mem_iff_getElem?.1 hin
      have hsub : ∀ S h, (cl b9 ty_int [.int .i64 x4, .int .i64 x6, .int .i64 x8]).P S h → ∃ S', (li ([x4, x6, x8].take n) (slR ⟨some ⟨b9, 0, none⟩, 3, 3⟩ 0 n 1)).P S' h ∧ ∀ b ∈ S', b ∈ S := by
        rintro S h ⟨eS, hb⟩
        have hr : (li [x4, x6, x8] ⟨some ⟨b9, 0, none⟩, 3, 3⟩).P [b9] h := osl_rsl (t := ty_int) (.inl ⟨b9, [], rfl, rfl, hb⟩)
        have hs3 : slR ⟨some ⟨b9, 0, none⟩, 3, 3⟩ 0 n 1 = ⟨some ⟨b9, 0, none⟩, n, 3⟩ := slR_at (by decide)
        rw [hs3]
        obtain ⟨e1, e2, k⟩ := hr
        rcases k with ⟨k, _⟩ | ⟨a, ea, eS2, hcl, hx⟩
        · cases k
        · refine ⟨[b9], ⟨by simp; omega, by show n ≤ 3; omega, .inr ⟨a, ea, eS2, hcl, fun i x hi => hx i x ?_⟩⟩, fun b hb => by rw [eS]; exact hb⟩
          rw [List.getElem?_take] at hi
          split at hi
          · exact hi
          · cases hi
      have st := st.gain j hj hsub
      generalize slR ⟨some ⟨b9, 0, none⟩, 3, 3⟩ 0 n 1 = s12 at st ⊢
      refine st.nw fun b13 h4 st => ?_
      try simp only [List.nil_append, List.cons_append, List.set_cons_zero, List.set_cons_succ, List.eraseIdx_cons_zero, List.eraseIdx_cons_succ, List.length_cons, List.length_nil, Nat.zero_add, Nat.reduceAdd] at st
      refine st.apd (enc := Ty.sl.enc) (v := s12) 1 2 rfl rfl (by decide) rfl (by omega) (by decide) rfl fun s14 h5 st => ?_
      try simp only [List.nil_append, List.cons_append, List.set_cons_zero, List.set_cons_succ, List.eraseIdx_cons_zero, List.eraseIdx_cons_succ, List.length_cons, List.length_nil, Nat.zero_add, Nat.reduceAdd] at st
      have st := st.drop 2 rfl
      try simp only [List.nil_append, List.cons_append, List.set_cons_zero, List.set_cons_succ, List.eraseIdx_cons_zero, List.eraseIdx_cons_succ, List.length_cons, List.length_nil, Nat.zero_add, Nat.reduceAdd] at st
      refine hY _ _ _ ⟨n + 1, _, qs ++ [s12], s14, rfl, by omega, by simp; omega, ?_, List.mem_append_left _ hin, st, rfl⟩ (by omega)
      intro p hp
      rcases List.mem_append.1 hp with hp | hp
      · obtain ⟨xs, a, b⟩ := hsh p hp
        exact ⟨xs, a, List.mem_append_left _ b⟩
      · rw [List.mem_singleton] at hp
        subst hp
        exact ⟨[x4, x6, x8].take n, by rw [List.length_take]; exact Nat.min_le_right _ _, List.mem_append_right _ (List.mem_singleton.2 rfl)⟩
    · rw [show decide ((n : Int) < 4) = false from decide_eq_false (by omega), brB_false]
      exact hX _ _ _ ⟨i + 1, G2, qs, s', rfl, by omega, by omega, hsh, st, rfl⟩ (by omega)
  · rw [show decide ((i : Int) < 125) = false from decide_eq_false (by omega), brB_false]
    have ei : i = 125 := by omega
    subst ei
    exact hK G ps s' h1 (by omega) hsh st

/-- All of one row of numbers. -/
theorem At.row {b : Nat} {t : TypeId} {xs : List Int} {n : Nat} (hb : Blk h b t (xs.map i64.enc)) (hn : n = xs.length) : At h (li xs ⟨some ⟨b, 0, none⟩, n, n⟩) := by
  subst hn; exact ⟨[b], osl_rsl (t := t) (.inl ⟨b, [], rfl, rfl, by simpa using hb⟩)⟩

theorem nw_row {t : TypeId} {cs : Array Value} (xs : List Int) (e : cs.toList = xs.map i64.enc) {K : Nat → HP} (hK : ∀ b h', Ext [] h h' → (∀ n, n = xs.length → At h' (li xs ⟨some ⟨b, 0, none⟩, n, n⟩)) → K b h') : Sx.nw cs t K h := by
  refine (nw_eq (K := K) (h := h) (t := t) (cs := cs)) ▸ hK h.size _ ((Ext.refl' [] h).push _) fun n hn => At.row (t := t) ?_ hn
  have := Blk.new h t cs
  rw [e] at this; exact this

set_option maxRecDepth 20000 in
theorem clausesSmall_F (K : Bool → HP) (hK : ∀ x h', (x = true ∧ Ext [] h h') → K x h') : F_salvorlaw02_ClausesSmall K h := by
  unfold F_salvorlaw02_ClausesSmall
  have st := Hs.start h [] (by simp)
  refine st.nw fun b0 h1 st => ?_
  try simp only [List.nil_append, List.cons_append, List.set_cons_zero, List.set_cons_succ, List.eraseIdx_cons_zero, List.eraseIdx_cons_succ, List.length_cons, List.length_nil, Nat.zero_add, Nat.reduceAdd] at st
  refine small_gather _ st fun G ps sa h2 hps hsh st => ?_
  simp only
  have xx := st.frame (h0 := h) (by simp)
  have h5 := five_at (st.blk 0 rfl)
  have hall : At h2 (rsl Ty.sl.enc ps sa) := (st.own 1 rfl).rsl
  have hsh : ∀ p ∈ ps, ∃ xs : List Int, xs.length ≤ 3 ∧ At h2 (li xs p) := fun p hp => let ⟨xs, a, b⟩ := hsh p hp; ⟨xs, a, Hs.fzm st b⟩
  clear st
  have lp := rsl_len hall
  refine lfp_invh (I := fun m σ h' => ∃ i : Nat, σ = ((i : Int), false, ()) ∧ i ≤ ps.length ∧ Ext [] h2 h' ∧ m = ps.length - i) ⟨_, 0, rfl, by omega, Ext.refl' _ _, rfl⟩ ?_
  rintro m σ h3 X ⟨i, rfl, hi, y, em⟩ hX
  simp only
  by_cases hlt : i < ps.length
  · rw [show decide ((i : Int) < (sa.len : Int)) = true by rw [lp]; exact dlt_t hlt, brB_true, inc_i (show i < 4611686018427387904 by omega)]
    refine rdE (τ := .sl) (hall.ext y) hlt ?_
    obtain ⟨xs, hxl, hx⟩ := hsh _ (List.getElem_mem hlt)
    have w1 : IntKind.wrap .i64 (Int.tdiv (i : Int) 5) = ((i / 5 : Nat) : Int) := by rw [show Int.tdiv (i : Int) 5 = ((i / 5 : Nat) : Int) from tdiv_nat i 5, wrap_i64 (by omega) (by omega)]
    rw [w1]
    generalize ps[i] = p at hx
    refine ⟨by decide, five_rd (i := i) (h5.ext y) (tmod_nat i 5) fun x20 => ⟨by decide, ⟨by decide, five_rd (i := i / 5) (h5.ext y) (tmod_nat (i / 5) 5) fun x22 => ?_⟩⟩⟩
    refine nw_row [x22] rfl fun b23 h4 y4 hr => ?_
    have y4 := y.nil_trans y4
    refine call_of (one_c (hx.ext y4) (hr 1 rfl) (by omega) (by simp) x20) ?_
    rintro _ h6 ⟨rfl, y6⟩
    have y6 := y4.nil_trans y6
    (change brB false _ _ _; rw [brB_false])
    refine call_of (one_c (hx.ext y6) (h5.ext y6) (by omega) (by simp [five]) 0) ?_
    rintro _ h7 ⟨rfl, y7⟩
    have y7 := y6.nil_trans y7
    (change brB false _ _ _; rw [brB_false])
    refine lfp_invh (I := fun m σ h' => ∃ k : Nat, σ = ((k : Int), false, ()) ∧ k ≤ 40 ∧ Ext [] h2 h' ∧ m = 40 - k) ⟨_, 0, rfl, by omega, y7, rfl⟩ ?_
    rintro m2 σ2 h8 Y ⟨k, rfl, hk, y8, em2⟩ hY
    simp only
    by_cases hlt2 : k < 40
    · rw [show decide ((k : Int) < 40) = true from decide_eq_true (by omega), brB_true, inc_i (show k < 4611686018427387904 by omega)]
      have hkk : k * k ≤ 40 * 40 := Nat.mul_le_mul (by omega) (by omega)
      have e1 : IntKind.wrap .i64 ((k : Int) * (k : Int)) = ((k * k : Nat) : Int) := by rw [← Int.natCast_mul, wrap_i64 (by omega) (by omega)]
      have e2 : IntKind.wrap .i64 ((i : Int) + ((k * k : Nat) : Int)) = ((i + k * k : Nat) : Int) := by rw [wrap_i64 (by omega) (by omega)]; omega
      have e3 : IntKind.wrap .i64 (((i + k * k : Nat) : Int) + (k : Int)) = ((i + k * k + k : Nat) : Int) := by rw [wrap_i64 (by omega) (by omega)]; omega
      have e4 : IntKind.wrap .i64 ((i : Int) + (k : Int)) = ((i + k : Nat) : Int) := by rw [wrap_i64 (by omega) (by omega)]; omega
      rw [e1, e2, e3, e4]
      refine ⟨by omega, ?_⟩
      have e5 : Int.tmod ((i + k * k + k : Nat) : Int) (sa.len : Int) = (((i + k * k + k) % ps.length : Nat) : Int) := by rw [lp]; exact tmod_nat _ _
      rw [e5]
      refine rdE (τ := .sl) (hall.ext y8) (show (i + k * k + k) % ps.length < ps.length from Nat.mod_lt _ (by omega)) ?_
      obtain ⟨zs, hzl, hz⟩ := hsh _ (List.getElem_mem (show (i + k * k + k) % ps.length < ps.length from Nat.mod_lt _ (by omega)))
      generalize ps[(i + k * k + k) % ps.length]'(Nat.mod_lt _ (by omega)) = q at hz
      refine ⟨by decide, five_rd (i := i + k) (h5.ext y8) (tmod_nat (i + k) 5) fun x31 => ?_⟩
      refine call_of (pair_c (hx.ext y8) (hz.ext y8) (by omega) (by omega) x31) ?_
      rintro _ h9 ⟨rfl, y9⟩
      (change brB false _ _ _; rw [brB_false])
      exact hY _ _ _ ⟨k + 1, rfl, by omega, y8.nil_trans y9, rfl⟩ (by omega)
    · rw [show decide ((k : Int) < 40) = false from decide_eq_false (by omega), brB_false]
      exact hX _ _ _ ⟨i + 1, rfl, by omega, y8, rfl⟩ (by omega)
  rw [show decide ((i : Int) < (sa.len : Int)) = false by rw [lp]; exact dlt_f hlt, brB_false]
  have xx := xx.nil_trans y
  clear hX hlt hi em hall hsh h5 y lp
  -- literals at their limits
  refine nw_row [-9223372036854775808, -1048577, -1048576, 1048576, 1048577, 9223372036854775807] rfl fun b33 h4 y4 h6 => ?_
  have h6 := h6 6 rfl
  have xx := xx.nil_trans y4
  refine lfp_invh (I := fun m σ h' => ∃ i : Nat, σ = ((i : Int), false, ()) ∧ i ≤ 6 ∧ Ext [] h4 h' ∧ m = 6 - i) ⟨_, 0, rfl, by omega, Ext.refl' _ _, rfl⟩ ?_
  rintro m2 σ2 h5 Y ⟨i, rfl, hi, y, em⟩ hY
  simp only
  by_cases hlt : i < 6
  · rw [show decide ((i : Int) < 6) = true from decide_eq_true (by omega), brB_true, inc_i (show i < 4611686018427387904 by omega)]
    refine rdE (τ := i64) (h6.ext y) (show i < [-9223372036854775808, -1048577, -1048576, 1048576, 1048577, 9223372036854775807].length from hlt) ?_
    generalize [(-9223372036854775808 : Int), -1048577, -1048576, 1048576, 1048577, 9223372036854775807][i]'hlt = x
    refine nw_row [1, x] rfl fun b38 h7 y7 r38 => ?_
    refine nw_row [x] rfl fun b39 h8 y8 r39 => ?_
    have y8' := (y.nil_trans y7).nil_trans y8
    refine call_of (one_c ((r38 2 rfl).ext y8) (r39 1 rfl) (by simp) (by simp) x) ?_
    rintro _ h9 ⟨rfl, y9⟩
    (change brB false _ _ _; rw [brB_false])
    refine nw_row [x, 2] rfl fun b41 h10 y10 r41 => ?_
    refine nw_row [1, IntKind.wrap .i64 (0 - x)] rfl fun b42 h11 y11 r42 => ?_
    refine call_of (pair_c ((r41 2 rfl).ext y11) (r42 2 rfl) (by simp) (by simp) x) ?_
    rintro _ h12 ⟨rfl, y12⟩
    (change brB false _ _ _; rw [brB_false])
    exact hY _ _ _ ⟨i + 1, rfl, by omega, (((y8'.nil_trans y9).nil_trans y10).nil_trans y11).nil_trans y12, rfl⟩ (by omega)
  rw [show decide ((i : Int) < 6) = false from decide_eq_false (by omega), brB_false]
  have xx := xx.nil_trans y
  clear hY hlt hi em h6 y4 y
  -- as many literals as there may be
  have st := (Hs.start h5 [] (by simp)).nil ty_int i64.enc none
  refine lfp_invh (I := fun m σ h' => ∃ (i : Nat) (s' : Sl), σ = ((i : Int), s', ()) ∧ i ≤ 4097 ∧ Hs [([], h5)] [] [io (upTo 1 i) s'] h' ∧ m = 4097 - i) ⟨_, 0, ⟨none, 0, 0⟩, rfl, by omega, st, rfl⟩ ?_
  clear st
  rintro m3 σ3 h6 Z ⟨i, s', rfl, hi, st, em⟩ hZ
  simp only
  by_cases hlt : i < 4097
  · rw [show decide ((i : Int) < 4097) = true from decide_eq_true (by omega), brB_true, inc_i (show i < 4611686018427387904 by omega)]
    refine st.nw fun b46 h7 st => ?_
    refine st.apd (enc := i64.enc) (v := ((i + 1 : Nat) : Int)) 0 1 rfl rfl (by decide) rfl (by rw [upTo_len]; omega) (by decide) rfl fun s7 h8 st => ?_
    refine hZ _ _ _ ⟨i + 1, s7, rfl, by omega, ?_, rfl⟩ (by omega)
    have st := st.drop 1 rfl
    have e : upTo 1 (i + 1) = upTo 1 i ++ [((i + 1 : Nat) : Int)] := by unfold upTo; rw [List.range_succ, List.map_append]; rfl
    rw [e]; exact st
  rw [show decide ((i : Int) < 4097) = false from decide_eq_false (by omega), brB_false]
  have ei : i = 4097 := by omega
  subst ei
  clear hZ hlt hi em
  have hL : At h6 (li (upTo 1 4097) s') := (st.own 0 rfl).rsl
  have xx := xx.nil_trans (st.frame (h0 := h5) (by simp))
  clear st
  have lL := upTo_len 1 4097
  refine call_of (clause_c hL (by rw [lL]; decide)) ?_
  rintro r48 h7 ⟨n7, x7⟩
  have hx : At h7 (li (upTo 1 4097) r48) := n7.at.rsl
  have hL := hL.ext x7
  have xx := xx.nil_trans x7
  have l48 := rsl_len hx
  rw [lL] at l48
  have c48 := rsl_cap hx
  have hF : At h7 (li full (slR ⟨r48.a, r48.len, r48.cap⟩ 0 4096 1)) := by
    have := rsl_sub hx (l := 0) (m := 4096) (by decide) (by rw [lL]; decide)
    rw [List.drop_zero, upTo_take (by decide)] at this; exact this
  have hM : At h7 (li [4097] (slR ⟨r48.a, r48.len, r48.cap⟩ 4096 (⟨r48.a, r48.len, r48.cap⟩ : Sl).len 1)) := by
    have := rsl_sub hx (l := 4096) (m := 4097) (by decide) (by rw [lL]; decide)
    rw [show (⟨r48.a, r48.len, r48.cap⟩ : Sl).len = 4097 from l48]
    rw [List.take_of_length_le (by rw [lL]; decide), upTo_drop (by decide)] at this; exact this
  have hT : At h7 (li (upTo 2 4096) (slR ⟨r48.a, r48.len, r48.cap⟩ 1 (⟨r48.a, r48.len, r48.cap⟩ : Sl).len 1)) := by
    have := rsl_sub hx (l := 1) (m := 4097) (by decide) (by rw [lL]; decide)
    rw [show (⟨r48.a, r48.len, r48.cap⟩ : Sl).len = 4097 from l48]
    rw [List.take_of_length_le (by rw [lL]; decide), upTo_drop (by decide)] at this; exact this
  have hcap : ((4096 : Int) ≤ ((⟨r48.a, r48.len, r48.cap⟩ : Sl).cap : Int)) := by show (4096 : Int) ≤ (r48.cap : Int); omega
  have hlen : ((4096 : Int) ≤ ((⟨r48.a, r48.len, r48.cap⟩ : Sl).len : Int)) := by show (4096 : Int) ≤ (r48.len : Int); omega
  have hlen1 : ((1 : Int) ≤ ((⟨r48.a, r48.len, r48.cap⟩ : Sl).len : Int)) := by show (1 : Int) ≤ (r48.len : Int); omega
  refine ⟨by decide, hcap, ⟨by decide, hcap, ?_⟩⟩
  refine call_of (union_c hF hF) ?_
  rintro _ h8 ⟨s51, rfl, n51, y8⟩
  have l51 := osl_len n51.at
  rw [union_full.2] at l51
  refine ⟨by decide, hcap, ⟨by decide, hlen, ?_⟩⟩
  refine call_of (union_c (hF.ext y8) (hM.ext y8)) ?_
  rintro _ h9 ⟨s54, rfl, _, y9⟩
  have y9 := y8.nil_trans y9
  refine call_of (union_c (s2 := ⟨none, 0, 0⟩) (d := []) (hx.ext y9) (osl_nil (t := ty_lits_Lit) (enc := i64.enc) 0 h9).at.rsl) ?_
  rintro _ h10 ⟨s55, rfl, _, y10⟩
  have y10 := y9.nil_trans y10
  refine ⟨by decide, hcap, ?_⟩
  refine nw_row [-1, 2] rfl fun b57 h11 y11 r57 => ?_
  have y11 := y10.nil_trans y11
  refine call_of (resolve_c (hF.ext y11) (r57 2 rfl) 1) ?_
  rintro _ h12 ⟨s58, rfl, n58, y12⟩
  have y12 := y11.nil_trans y12
  have l58 := osl_len n58.at
  rw [resolve_one.2] at l58
  refine ⟨by decide, hcap, ?_⟩
  refine nw_row [-1, -2, -3] rfl fun b60 h13 y13 r60 => ?_
  have y13 := y12.nil_trans y13
  refine call_of (resolve_c (hF.ext y13) (r60 3 rfl) 1) ?_
  rintro _ h14 ⟨s61, rfl, _, y14⟩
  have y14 := y13.nil_trans y14
  refine ⟨by decide, hlen1, ?_⟩
  refine call_of (right_c (hT.ext y14)) ?_
  rintro _ h15 ⟨rfl, y15⟩
  have y15 := y14.nil_trans y15
  rw [upTo_right (by decide) (by decide), show decide (4096 ≤ 4096) = true from rfl, brB_true]
  refine call_of (right_c (hx.ext y15)) ?_
  rintro _ h16 ⟨rfl, y16⟩
  have y16 := y15.nil_trans y16
  rw [upTo_right (by decide) (by decide), show (!decide (4097 ≤ 4096)) = true from rfl, brB_true]
  refine rdE (τ := i64) (i := 5) (hL.ext y16) (by rw [lL]; decide) ?_
  rw [upTo_get]
  refine call_of (r1_right_c _) ?_
  rintro _ hq ⟨rfl, rfl⟩
  rw [show rt ((5 + 1 : Nat) : Int) = true from rfl, brB_true]
  simp only [l51, l58, union_full.1, union_more, union_long, resolve_one.1, resolve_many]
  (change brB true _ _ _; rw [brB_true]); (change brB true _ _ _; rw [brB_true]); (change brB true _ _ _; rw [brB_true]); (change brB true _ _ _; rw [brB_true]); (change brB true _ _ _; rw [brB_true]); (change brB true _ _ _; rw [brB_true]); (change brB true _ _ _; rw [brB_true])
  exact call_of awake_c fun r h' e => hK r h' ⟨e.1, (xx.nil_trans y16).nil_trans e.2⟩

end Go.Proofs.S
