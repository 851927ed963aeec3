/-
  CrashSmall, walked.
-/
import Derived.Test.YtchedlkmgahicaaCrW6
import Derived.Test.YtchedlkmgahicaaSxMn
set_option linter.unusedVariables false
set_option linter.unusedSimpArgs false
namespace Go.Cr
open Go Go.Sx

theorem right_rep (n : Nat) (e : Int) (he : 0 ≤ e) : rightL (List.replicate n (0, 0, e, ())) = decide (n ≤ 4096) := by
  unfold rightL
  rw [List.length_replicate]
  have : rightGo 0 (List.replicate n ((0, 0, e, ()) : Ent)) = true := by
    rw [rightGo_iff]
    refine ⟨fun x hx => ?_, ?_⟩
    · rw [List.eq_of_mem_replicate hx]; exact ⟨Int.le_refl _, show (0 : Int) < 16 by decide, he⟩
    · exact List.pairwise_replicate.2 (.inr (Int.le_refl _))
  rw [this, Bool.true_and]
theorem valids_rep (n : Nat) (e : Int) : (valids (List.replicate n (0, 0, e, ()))).length = 2 ^ n := by
  have := count_one (a := List.replicate n ((0, 0, e, ()) : Ent)) (e := e) fun y hy => by rw [List.eq_of_mem_replicate hy]
  rw [this, List.length_replicate]
/-- Entries two by two. -/
def twos (n : Nat) : List Ent := (List.range n).map fun i => (0, 0, ((i / 2 * 3 : Nat) : Int), ())
theorem twos_succ (n : Nat) : twos (n + 1) = twos n ++ [(0, 0, ((n / 2 * 3 : Nat) : Int), ())] := by unfold twos; rw [List.range_succ, List.map_append]; rfl
theorem twos_len (n : Nat) : (twos n).length = n := by simp [twos]
theorem right_twos (n : Nat) : rightL (twos n) = decide (n ≤ 4096) := by
  unfold rightL
  rw [twos_len]
  have : rightGo 0 (twos n) = true := by
    rw [rightGo_iff]
    unfold twos
    refine ⟨fun x hx => ?_, ?_⟩
    · obtain ⟨i, _, rfl⟩ := List.mem_map.1 hx
      exact ⟨Int.le_refl _, show (0 : Int) < 16 by decide, Int.natCast_nonneg _⟩
    · rw [List.pairwise_map]
      refine List.pairwise_lt_range.imp fun {a b} hab => ?_
      show ((a / 2 * 3 : Nat) : Int) ≤ ((b / 2 * 3 : Nat) : Int)
      omega
  rw [this, Bool.true_and]

end Go.Cr
namespace Go.Proofs.S
open Go Go.Sx Go.Proofs Go.Cr Go.Cl

variable {h : Heap} {l a b : List Ent} {k k2 : List Bool} {m m2 : List Int} {s s2 s3 : Sl} {fr : Fr} {G As : List Asn}

theorem u32_wrap (x : Int) : 0 ≤ IntKind.wrap .u32 x ∧ IntKind.wrap .u32 x < 4294967296 := by
  have : IntKind.wrap .u32 x = x % 4294967296 := by simp [IntKind.wrap, IntKind.signed, IntKind.bits]
  rw [this]; omega
theorem W32_pair {x y : Int} (hx : 0 ≤ x ∧ x < 4294967296) (hy : 0 ≤ y ∧ y < 4294967296) : W32 [x, y] := by
  intro w hw
  simp only [List.mem_cons, List.not_mem_nil, or_false] at hw
  rcases hw with rfl | rfl
  · exact hx
  · exact hy
theorem W32_nil : W32 [] := fun w hw => by cases hw

/-- Less that is read. -/
theorem Hs.takeG {G' : List Asn} (st : Hs fr (G ++ G') As h) : Hs fr G As h :=
  let ⟨S, a, b, c⟩ := st; ⟨S, a, fun A hA => b A (List.mem_append_left _ hA), c⟩

/-- [a, b], called with. -/
theorem Hs.pair (st : Hs fr G As h) {x y : Int} {K : Nat → HP} {t : TypeId} (hK : ∀ b h', Ext [] h h' → Hs fr G As h' → At h' (lw [x, y] ⟨some ⟨b, 0, none⟩, 2, 2⟩) → K b h') : Sx.nw #[(.int .u32 x), (.int .u32 y)] t K h := by
  refine st.nwX fun b h1 x1 st => ?_
  have st1 := st.asSl As.length u32.enc [x, y] (lastA _ _) rfl
  rw [setL] at st1
  exact hK b h1 x1 st.dropL (st1.own As.length (lastA _ _)).rsl

/-- The lists that are wrong, and some beside them. -/
theorem small3 {K : Bool → HP} {N : HP} (hA : At h (le l s)) (hw : WE l) (hl : l.length ≤ 100) (hN : ∀ h', Ext [] h h' → N h') :
    (nw #[(.int .u32 (1 : Int)), (.int .u32 (2 : Int))] ty_uint32 fun b51 =>
      Sx.mks ty_bool 1 1 #[(.bool false)] (s.len : Int) (s.len : Int) fun s52 =>
      callT Try.prog fn_salvorlaw35_tells #[(.slice (some (⟨b51, 0, none⟩ : Addr)) 2 2), (.slice s.a s.len s.cap), (.slice s52.a s52.len s52.cap)] .bool fun r53 =>
      brB (!r53) (K false)
      (nw #[(.int .u32 (1 : Int)), (.int .u32 (2 : Int))] ty_uint32 fun b54 =>
      nw #[(.bool true)] ty_bool fun b55 =>
      callT Try.prog fn_salvorlaw35_tells #[(.slice (some (⟨b54, 0, none⟩ : Addr)) 2 2), (.slice s.a s.len s.cap), (.slice (some (⟨b55, 0, none⟩ : Addr)) 1 1)] .bool fun r56 =>
      brB (!r56) (K false)
      (nw #[(.bool true), (.bool true)] ty_bool fun b57 =>
      callT Try.prog fn_salvorlaw35_tells #[(.slice none 0 0), (.slice s.a s.len s.cap), (.slice (some (⟨b57, 0, none⟩ : Addr)) 2 2)] .bool fun r58 =>
      brB (!r58) (K false)
      (nw #[(.int .u32 (1 : Int)), (.int .u32 (2 : Int))] ty_uint32 fun b59 =>
      callT Try.prog fn_salvorlaw35_sets #[(.slice (some (⟨b59, 0, none⟩ : Addr)) 2 2), (.slice s.a s.len s.cap), (.int .i64 (1 : Int))] .bool fun r60 =>
      brB (!r60) (K false)
      (callT Try.prog fn_salvorlaw35_sets #[(.slice none 0 0), (.slice s.a s.len s.cap), (.int .i64 (9 : Int))] .bool fun r61 =>
      brB (!r61) (K false) N))))) h := by
  have hp : W32 [1, 2] := W32_pair (by decide) (by decide)
  have nil0 : ∀ h', At h' (lw [] ⟨none, 0, 0⟩) := fun h' => (osl_nil (t := 0) (a := none) 0 h').at.rsl
  have ls := rsn_len hA
  have st := Hs.start h [le l s] (by simp [hA])
  refine st.nw fun b51 _ st => ?_
  have st := (st.asSl 0 u32.enc [1, 2] rfl rfl).freeze 0 rfl
  simp only [List.nil_append, List.cons_append, List.set_cons_zero, List.eraseIdx_cons_zero] at st
  refine Hs.mks1 (n := s.len) (τ := .bool) (z := false) st (by omega) (by decide) fun s52 _ st => ?_
  have st := st.freeze 0 rfl
  simp only [List.nil_append, List.cons_append, List.eraseIdx_cons_zero] at st
  refine call_of (tells_c (c := [1, 2]) (k := List.replicate s.len false) (s0 := ⟨some ⟨b51, 0, none⟩, 2, 2⟩) (s2 := s52) (st.fz 1 rfl).rsl hp (st.fz 0 rfl) hw (st.fz 2 rfl).rsl) ?_
  rintro _ _ ⟨rfl, x⟩
  have st := st.ext x
  clear x
  rw [Bool.not_true, brB_false]
  refine st.nw fun b54 _ st => ?_
  have st := (st.asSl 0 u32.enc [1, 2] rfl rfl).freeze 0 rfl
  simp only [List.nil_append, List.cons_append, List.set_cons_zero, List.eraseIdx_cons_zero] at st
  refine st.nw fun b55 _ st => ?_
  have st := (st.asSl 0 Ty.bool.enc [true] rfl rfl).freeze 0 rfl
  simp only [List.nil_append, List.cons_append, List.set_cons_zero, List.eraseIdx_cons_zero] at st
  refine call_of (tells_c (c := [1, 2]) (k := [true]) (s0 := ⟨some ⟨b54, 0, none⟩, 2, 2⟩) (s2 := ⟨some ⟨b55, 0, none⟩, 1, 1⟩) (st.fz 3 rfl).rsl hp (st.fz 0 rfl) hw (st.fz 4 rfl).rsl) ?_
  rintro _ _ ⟨rfl, x⟩
  have st := st.ext x
  clear x
  rw [Bool.not_true, brB_false]
  refine st.nw fun b57 _ st => ?_
  have st := (st.asSl 0 Ty.bool.enc [true, true] rfl rfl).freeze 0 rfl
  simp only [List.nil_append, List.cons_append, List.set_cons_zero, List.eraseIdx_cons_zero] at st
  refine call_of (tells_c (c := []) (k := [true, true]) (s0 := ⟨none, 0, 0⟩) (s2 := ⟨some ⟨b57, 0, none⟩, 2, 2⟩) (nil0 _) W32_nil (st.fz 0 rfl) hw (st.fz 5 rfl).rsl) ?_
  rintro _ _ ⟨rfl, x⟩
  have st := st.ext x
  clear x
  rw [Bool.not_true, brB_false]
  refine st.nw fun b59 _ st => ?_
  have st := (st.asSl 0 u32.enc [1, 2] rfl rfl).freeze 0 rfl
  simp only [List.nil_append, List.cons_append, List.set_cons_zero, List.eraseIdx_cons_zero] at st
  refine call_of (sets_c (c := [1, 2]) (s0 := ⟨some ⟨b59, 0, none⟩, 2, 2⟩) (u := 1) (st.fz 6 rfl).rsl hp (st.fz 0 rfl) hw (by decide)) ?_
  rintro _ _ ⟨rfl, x⟩
  have st := st.ext x
  clear x
  rw [Bool.not_true, brB_false]
  refine call_of (sets_c (c := []) (s0 := ⟨none, 0, 0⟩) (u := 9) (nil0 _) W32_nil (st.fz 0 rfl) hw (by decide)) ?_
  rintro _ _ ⟨rfl, x⟩
  have st := st.ext x
  rw [Bool.not_true, brB_false]
  exact hN _ (st.frame (by simp))

-- MAIN
theorem mem7 : ∀ x ∈ ([(-1, 0, 0, ()), (16, 0, 0, ()), (15, 0, 0, ()), (0, 0, -1, ()), (0, 0, 9223372036854775807, ()), (2, 0, 0, ()), (0, 4294967295, 0, ())] : List Ent), 0 ≤ x.2.1 ∧ x.2.1 < 4294967296 := by decide

theorem crashSmall_F (K : Bool → HP) (hK : ∀ x h', (x = true ∧ Ext [] h h') → K x h') : F_salvorlaw35_CrashSmall K h := by
  unfold F_salvorlaw35_CrashSmall
  have st := Hs.start h [] (by simp)
  refine lfp_invh (I := fun μ σ h' => ∃ n : Nat, σ = ((n : Int), false, ()) ∧ n ≤ 5 ∧ Hs [([], h)] [] [] h' ∧ μ = 5 - n) ⟨_, 0, rfl, by omega, st, rfl⟩ ?_
  clear st
  rintro μ σ h1 X ⟨n, rfl, hn, st, em⟩ hX
  simp only
  by_cases hlt : n < 5
  · rw [decide_eq_true (show (n : Int) < 5 by omega), brB_true, inc_i (show n < 4611686018427387904 by omega)]
    have e2n : IntKind.wrap .i64 ((2 : Int) * (n : Int)) = ((2 * n : Nat) : Int) := by rw [wrap_i64 (by omega) (by omega)]; omega
    rw [e2n]
    refine ⟨Int.natCast_nonneg _, ?_⟩
    rw [pow64 (show 2 * n ≤ 60 by omega)]
    have hp1 : 2 ^ (2 * n) ≤ 2 ^ 10 := Nat.pow_le_pow_right (by decide) (by omega)
    have e10 : (2 : Nat) ^ 10 = 1024 := by decide
    rw [e10] at hp1
    generalize 2 ^ (2 * n) = N at *
    refine lfp_invh (I := fun μ σ h' => ∃ k : Nat, σ = ((k : Int), false, ()) ∧ k ≤ N ∧ Hs [([], h)] [] [] h' ∧ μ = N - k) ⟨_, 0, rfl, by omega, st, rfl⟩ ?_
    clear st
    rintro μ2 σ h2 X2 ⟨k, rfl, hk, st, em2⟩ hX2
    simp only
    by_cases hlt2 : k < N
    · rw [decide_eq_true (show (k : Int) < (N : Int) by omega), brB_true]
      have st := st.niln ty_disk_Entry 3 tE.vals none
      simp only [List.nil_append] at st
      refine lfp_invh (I := fun μ σ h' => ∃ (i : Nat) (c e : Int) (l : List Ent) (s' : Sl), σ = ((i : Int), c, e, s', ()) ∧ i ≤ n ∧ l.length = i ∧ WE l ∧ Hs [([], h)] [] [oe l s'] h' ∧ μ = n - i)
        ⟨_, 0, _, _, [], ⟨none, 0, 0⟩, rfl, by omega, rfl, (fun x hx => by cases hx), st, rfl⟩ ?_
      clear st
      rintro μ3 σ h3 X3 ⟨i, c, e, l, s', rfl, hi, hl, hw, st, em3⟩ hX3
      simp only
      by_cases hlt3 : i < n
      · rw [decide_eq_true (show (i : Int) < (n : Int) by omega), brB_true]
        refine ⟨by decide, ?_⟩
        refine st.nw fun b6 h4 st => ?_
        simp only [List.nil_append, List.cons_append] at st
        refine Hs.apdN (v := ((bAnd .i64 c 1, IntKind.wrap .u32 (IntKind.wrap .i64 ((i : Int) + 1)), IntKind.wrap .i64 (e + bAnd .i64 (Int.fdiv c (2 ^ (min ((1 : Int)).toNat 64))) 1), ()) : Ent)) st wideE (by decide) 0 1 rfl rfl (by decide) (leafE _) (by omega) (by decide) rfl fun s7 h5 st => ?_
        refine ⟨by decide, ?_⟩
        rw [inc_i (show i < 4611686018427387904 by omega)]
        refine hX3 _ _ _ ⟨i + 1, _, _, _, s7, rfl, by omega, ?_, ?_, st.drop 1 rfl, rfl⟩ (by omega)
        · simp [hl]
        · intro x hx
          rcases List.mem_append.1 hx with hx | hx
          · exact hw x hx
          · simp only [List.mem_singleton] at hx
            subst hx; exact u32_wrap _
      rw [decide_eq_false (show ¬ (i : Int) < (n : Int) by omega), brB_false]
      clear hX3 X3 em3
      have st := (st.imp 0 rfl (A' := le l s') fun S h q => osn_rsn wideE q).freeze 0 rfl
      simp only [List.nil_append, List.cons_append, List.eraseIdx_cons_zero, List.set_cons_zero] at st
      have h89 : W32 [8, 9] := W32_pair (by decide) (by decide)
      refine st.nw fun b8 h4 st => ?_
      have st := (st.asSl 0 u32.enc [8, 9] rfl rfl).freeze 0 rfl
      simp only [List.nil_append, List.cons_append, List.set_cons_zero, List.eraseIdx_cons_zero] at st
      refine ⟨by decide, ?_⟩
      have e7 : Int.tmod (k : Int) 7 = ((k % 7 : Nat) : Int) := by rw [Int.tmod_eq_emod_of_nonneg (by omega)]; omega
      rw [e7]
      refine call_of (sets_c (c := [8, 9]) (s0 := ⟨some ⟨b8, 0, none⟩, 2, 2⟩) (st.fz 1 rfl).rsl h89 (st.fz 0 rfl) hw (by omega)) ?_
      rintro _ h5 ⟨rfl, x5⟩
      have st := st.ext x5
      rw [Bool.not_true, brB_false]
      refine ⟨Int.natCast_nonneg _, ?_⟩
      rw [pow64 (show n ≤ 60 by omega)]
      have hq1 : 2 ^ n ≤ 2 ^ 10 := Nat.pow_le_pow_right (by decide) (by omega)
      rw [e10] at hq1
      generalize 2 ^ n = M at *
      refine lfp_invh (I := fun μ σ h' => ∃ q : Nat, σ = ((q : Int), false, ()) ∧ q ≤ M ∧ Hs [([], h)] [le l s', osl ty_uint32 u32.enc [8, 9] ⟨some ⟨b8, 0, none⟩, 2, 2⟩] [] h' ∧ μ = M - q) ⟨_, 0, rfl, by omega, st, rfl⟩ ?_
      clear st
      rintro μ4 σ h6 X4 ⟨q, rfl, hq, st, em4⟩ hX4
      simp only
      by_cases hlt4 : q < M
      · rw [decide_eq_true (show (q : Int) < (M : Int) by omega), brB_true, inc_i (show q < 4611686018427387904 by omega)]
        refine Hs.mks1 (n := n) (τ := .bool) (z := false) st (by omega) (by decide) fun s12 h7 st => ?_
        simp only [List.nil_append, List.cons_append] at st
        have l12 : s12.len = n := by rw [osl_len (st.own 0 rfl)]; simp
        refine lfp_invh (I := fun μ σ h' => ∃ (j : Nat) (ks : List Bool), σ = ((j : Int), ()) ∧ j ≤ n ∧ ks.length = n ∧ Hs [([], h)] [le l s', osl ty_uint32 u32.enc [8, 9] ⟨some ⟨b8, 0, none⟩, 2, 2⟩] [ob ks s12] h' ∧ μ = n - j)
          ⟨_, 0, _, rfl, by omega, by simp, st, rfl⟩ ?_
        clear st
        rintro μ5 σ h8 X5 ⟨j, ks, rfl, hj, hks, st, em5⟩ hX5
        simp only
        by_cases hlt5 : j < n
        · rw [decide_eq_true (show (j : Int) < (s12.len : Int) by omega), brB_true, inc_i (show j < 4611686018427387904 by omega)]
          refine ⟨Int.natCast_nonneg _, ?_⟩
          refine st.wrE (τ := .bool) 0 rfl (show j < ks.length by omega) _ fun h9 st => ?_
          exact hX5 _ _ _ ⟨j + 1, _, rfl, by omega, by simpa using hks, st, rfl⟩ (by omega)
        rw [decide_eq_false (show ¬ (j : Int) < (s12.len : Int) by omega), brB_false]
        refine st.nw fun b16 h9 st => ?_
        have st := (st.asSl 1 u32.enc [8, 9] rfl rfl)
        simp only [List.nil_append, List.cons_append, List.set_cons_zero, List.set_cons_succ] at st
        refine call_of (tells_c (c := [8, 9]) (k := ks) (s2 := s12) (s0 := ⟨some ⟨b16, 0, none⟩, 2, 2⟩) (st.own 1 rfl).rsl h89 (st.fz 0 rfl) hw (st.own 0 rfl).rsl) ?_
        rintro _ h10 ⟨rfl, x10⟩
        have st := st.ext x10
        rw [Bool.not_true, brB_false]
        exact hX4 _ _ _ ⟨q + 1, rfl, by omega, (st.drop 1 rfl).drop 0 rfl, rfl⟩ (by omega)
      rw [decide_eq_false (show ¬ (q : Int) < (M : Int) by omega), brB_false, inc_i (show k < 4611686018427387904 by omega)]
      exact hX2 _ _ _ ⟨k + 1, rfl, by omega, (Hs.start h [] (by simp)).ext (st.frame (by simp)), rfl⟩ (by omega)
    · rw [decide_eq_false (show ¬ (k : Int) < (N : Int) by omega), brB_false]
      exact hX _ _ _ ⟨n + 1, rfl, by omega, st, rfl⟩ (by omega)
  rw [decide_eq_false (show ¬ (n : Int) < 5 by omega), brB_false]
  clear hX X em hlt hn
  -- how many there are
  refine lfp_invh (I := fun μ σ h' => ∃ n : Nat, σ = ((n : Int), false, ()) ∧ n ≤ 41 ∧ Hs [([], h)] [] [] h' ∧ μ = 41 - n) ⟨_, 0, rfl, by omega, st, rfl⟩ ?_
  clear st
  rintro μ σ h2 X ⟨n, rfl, hn, st, em⟩ hX
  simp only
  by_cases hlt : n < 41
  · rw [decide_eq_true (show (n : Int) < 41 by omega), brB_true]
    have st := (st.niln ty_disk_Entry 3 tE.vals none).niln ty_disk_Entry 3 tE.vals none
    simp only [List.nil_append, List.cons_append] at st
    refine lfp_invh (I := fun μ σ h' => ∃ (i : Nat) (sm so : Sl), σ = ((i : Int), so, sm, ()) ∧ i ≤ n ∧ Hs [([], h)] [] [oe (List.replicate i (0, 0, 7, ())) sm, oe (twos i) so] h' ∧ μ = n - i)
      ⟨_, 0, ⟨none, 0, 0⟩, ⟨none, 0, 0⟩, rfl, by omega, st, rfl⟩ ?_
    clear st
    rintro μ2 σ h3 X2 ⟨i, sm, so, rfl, hi, st, em2⟩ hX2
    simp only
    by_cases hlt2 : i < n
    · rw [decide_eq_true (show (i : Int) < (n : Int) by omega), brB_true, inc_i (show i < 4611686018427387904 by omega)]
      refine st.nw fun b22 h4 st => ?_
      simp only [List.nil_append, List.cons_append] at st
      refine Hs.apdN (v := ((0, 0, 7, ()) : Ent)) st wideE (by decide) 0 2 rfl rfl (by decide) (leafE _) (by simp; omega) (by decide) rfl fun s23 h5 st => ?_
      simp only [List.set_cons_zero] at st
      have st := st.drop 2 rfl
      simp only [List.eraseIdx_cons_zero, List.eraseIdx_cons_succ] at st
      refine ⟨by decide, ?_⟩
      have e3 : IntKind.wrap .i64 ((IntKind.wrap .i64 (Int.tdiv (i : Int) (2 : Int))) * (3 : Int)) = ((i / 2 * 3 : Nat) : Int) := by
        rw [Int.tdiv_eq_ediv_of_nonneg (by omega), wrap_i64 (x := (i : Int) / 2) (by omega) (by omega), wrap_i64 (by omega) (by omega)]; omega
      rw [e3]
      refine st.nw fun b24 h6 st => ?_
      simp only [List.nil_append, List.cons_append] at st
      refine Hs.apdN (v := ((0, 0, ((i / 2 * 3 : Nat) : Int), ()) : Ent)) st wideE (by decide) 1 2 rfl rfl (by decide) (leafE _) (by rw [twos_len]; omega) (by decide) rfl fun s25 h7 st => ?_
      simp only [List.set_cons_zero, List.set_cons_succ] at st
      refine hX2 _ _ _ ⟨i + 1, s23, s25, rfl, by omega, ?_, rfl⟩ (by omega)
      rw [List.replicate_succ', twos_succ]
      exact st.drop 2 rfl
    rw [decide_eq_false (show ¬ (i : Int) < (n : Int) by omega), brB_false]
    have e : i = n := by omega
    subst e
    clear hX2 X2 em2 hlt2 hi
    have st := (((st.imp 0 rfl (A' := le _ sm) fun S h q => osn_rsn wideE q).imp 1 rfl (A' := le _ so) fun S h q => osn_rsn wideE q).freeze 0 rfl).freeze 0 rfl
    simp only [List.nil_append, List.cons_append, List.eraseIdx_cons_zero, List.set_cons_zero, List.set_cons_succ] at st
    have r1 : rightL (List.replicate i ((0, 0, 7, ()) : Ent)) = true := by rw [right_rep _ _ (by decide)]; exact decide_eq_true (by omega)
    have r2 : rightL (twos i) = true := by rw [right_twos]; exact decide_eq_true (by omega)
    have c1 : cntP (List.replicate i ((0, 0, 7, ()) : Ent)) = ((min (2 ^ i) (2 ^ 30) : Nat) : Int) := by unfold cntP; rw [valids_rep]
    have w1 : WE (List.replicate i ((0, 0, 7, ()) : Ent)) := fun x hx => by rw [List.eq_of_mem_replicate hx]; exact ⟨Int.le_refl _, show (0 : Int) < 4294967296 by decide⟩
    have w2 : WE (twos i) := fun x hx => by
      obtain ⟨j, _, rfl⟩ := List.mem_map.1 hx
      exact ⟨Int.le_refl _, show (0 : Int) < 4294967296 by decide⟩
    have f1 : fitsP 1 (List.replicate i ((0, 0, 7, ()) : Ent)) = true := by
      unfold fitsP
      simp only [Bool.not_eq_true', List.any_eq_false, decide_eq_true_eq]
      intro x hx
      rw [List.eq_of_mem_replicate hx]; decide
    have l1 : (List.replicate i ((0, 0, 7, ()) : Ent)).length ≤ 1099511627776 := by simp; omega
    have l2 : (twos i).length ≤ 1099511627776 := by rw [twos_len]; omega
    have hres : (decide ((resP [0] (List.replicate i ((0, 0, 7, ()) : Ent))).2 = 5)) = decide ((i : Int) > 12) := by
      unfold resP
      rw [if_pos r1, show ([0] : List Int).length = 1 from rfl, if_pos f1, c1]
      have e30 : (2 : Nat) ^ 30 = 1073741824 := by decide
      rw [e30]
      by_cases q : i ≤ 12
      · have := Nat.pow_le_pow_right (n := 2) (by decide) q
        have e12 : (2 : Nat) ^ 12 = 4096 := by decide
        rw [e12] at this
        rw [if_neg (by omega), decide_eq_false (show ¬ (i : Int) > 12 by omega)]; rfl
      · have := Nat.pow_le_pow_right (n := 2) (by decide) (show 13 ≤ i by omega)
        have e12 : (2 : Nat) ^ 13 = 8192 := by decide
        rw [e12] at this
        rw [if_pos (by omega), decide_eq_true (show (i : Int) > 12 by omega)]; rfl
    generalize List.replicate i ((0, 0, 7, ()) : Ent) = lm at *
    generalize twos i = lo at *
    refine call_of (count_c (st.fz 0 rfl) l1) ?_
    rintro _ h4 ⟨rfl, x4⟩
    have st := st.ext x4
    refine call_of (count_c (st.fz 1 rfl) l2) ?_
    rintro _ h5 ⟨rfl, x5⟩
    have st := st.ext x5
    have ec1 : countP lm = (cntP lm, 0) := by unfold countP; rw [if_pos r1]
    have ec2 : countP lo = (cntP lo, 0) := by unfold countP; rw [if_pos r2]
    rw [ec1, ec2]
    refine st.nw fun b28 h6 st => ?_
    have st := (st.asSl 0 u32.enc [0] rfl rfl).freeze 0 rfl
    simp only [List.nil_append, List.cons_append, List.set_cons_zero, List.eraseIdx_cons_zero] at st
    refine call_of (results_c (m := [0]) (s3 := ⟨some ⟨b28, 0, none⟩, 1, 1⟩) (st.fz 0 rfl) (st.fz 2 rfl).rsl l1 (by decide)) ?_
    rintro _ h7 ⟨r29, rfl, n7, x7⟩
    have st := st.ext x7
    rw [show (IntKind.wrap .i64 ((0 : Int) + 0) != 0) = false from rfl, brB_false]
    refine call_of (theirs_c (st.fz 0 rfl) l1 w1) ?_
    rintro r30 h8 ⟨n8, x8⟩
    have st := st.ext x8
    refine call_of (rCount_c (n8.at.rsn wideR) l1 (right_mono r1)) ?_
    rintro _ hq ⟨rfl, rfl⟩
    rw [show (cntP lm != cntP lm) = false by simp, brB_false]
    refine call_of (theirs_c (st.fz 1 rfl) l2 w2) ?_
    rintro r32 h9 ⟨n9, x9⟩
    have st := st.ext x9
    refine call_of (rCount_c (n9.at.rsn wideR) l2 (right_mono r2)) ?_
    rintro _ hq ⟨rfl, rfl⟩
    rw [show (cntP lo != cntP lo) = false by simp, brB_false]
    have e5 : ((resP [0] lm).2 == 5) = decide ((i : Int) > 12) := by rw [← hres]; rfl
    simp only [e5]
    rw [show (!(decide ((i : Int) > 12) == decide ((i : Int) > 12))) = false by simp, brB_false, inc_i (show i < 4611686018427387904 by omega)]
    exact hX _ _ _ ⟨i + 1, rfl, by omega, (Hs.start h [] (by simp)).ext (st.frame (by simp)), rfl⟩ (by omega)
  rw [decide_eq_false (show ¬ (n : Int) < 41 by omega), brB_false]
  clear hX X em hlt hn
  -- entries that are wrong, and some at the edge
  refine st.nw fun b34 h3 st => ?_
  have st := (st.asSn 0 3 tE.vals ([(-1, 0, 0, ()), (16, 0, 0, ()), (15, 0, 0, ()), (0, 0, -1, ()), (0, 0, 9223372036854775807, ()), (2, 0, 0, ()), (0, 4294967295, 0, ())] : List Ent) rfl rfl)
  simp only [List.nil_append, List.set_cons_zero] at st
  have st := (st.imp 0 rfl (A' := le ([(-1, 0, 0, ()), (16, 0, 0, ()), (15, 0, 0, ()), (0, 0, -1, ()), (0, 0, 9223372036854775807, ()), (2, 0, 0, ()), (0, 4294967295, 0, ())] : List Ent) ⟨some ⟨b34, 0, none⟩, 7, 7⟩) fun S h q => osn_rsn wideE q).freeze 0 rfl
  simp only [List.nil_append, List.eraseIdx_cons_zero, List.set_cons_zero] at st
  have m7 := mem7
  have l7 : (([(-1, 0, 0, ()), (16, 0, 0, ()), (15, 0, 0, ()), (0, 0, -1, ()), (0, 0, 9223372036854775807, ()), (2, 0, 0, ()), (0, 4294967295, 0, ())] : List Ent)).length = 7 := rfl
  generalize ([(-1, 0, 0, ()), (16, 0, 0, ()), (15, 0, 0, ()), (0, 0, -1, ()), (0, 0, 9223372036854775807, ()), (2, 0, 0, ()), (0, 4294967295, 0, ())] : List Ent) = L7 at *
  refine lfp_invh (I := fun μ σ h' => ∃ n : Nat, σ = ((n : Int), false, ()) ∧ n ≤ 7 ∧ Hs [([], h)] [le L7 ⟨some ⟨b34, 0, none⟩, 7, 7⟩] [] h' ∧ μ = 7 - n) ⟨_, 0, rfl, by omega, st, rfl⟩ ?_
  clear st
  rintro μ σ h4 X ⟨n, rfl, hn, st, em⟩ hX
  simp only
  by_cases hlt : n < 7
  · rw [decide_eq_true (show (n : Int) < 7 by omega), brB_true]
    refine Hs.rdEnt (s := ⟨some ⟨b34, 0, none⟩, 7, 7⟩) st (st.fz 0 rfl) (show n < L7.length by omega) fun b39 h5 st => ?_
    have hx := m7 _ (List.getElem_mem (show n < L7.length by omega))
    generalize L7[n]'(by omega) = x at *
    simp only [List.nil_append] at st
    refine ldRow (τ := tE) (x := x) (st.blk 0 rfl) ?_
    refine st.nw fun b41 h6 st => ?_
    simp only [List.nil_append, List.cons_append] at st
    refine ldRow (τ := tE) (x := x) (st.blk 0 rfl) ?_
    refine st.nw fun b43 h7 st => ?_
    simp only [List.nil_append, List.cons_append] at st
    refine ldRow (τ := tE) (x := x) (st.blk 0 rfl) ?_
    refine st.nw fun b45 h8 st => ?_
    simp only [List.nil_append, List.cons_append] at st
    refine st.nw fun b46 h9 st => ?_
    simp only [List.nil_append, List.cons_append] at st
    have st := st.drop 0 rfl
    simp only [List.eraseIdx_cons_zero] at st
    have st := ((((st.asSn 0 3 tE.vals [x] rfl rfl).asSn 1 3 tE.vals [x, ((0, 0, 3, ()) : Ent)] rfl rfl).asSn 2 3 tE.vals [((0, 0, 3, ()) : Ent), x] rfl rfl).asSl 3 Ty.sl.enc [(⟨some ⟨b41, 0, none⟩, 1, 1⟩ : Sl), ⟨some ⟨b43, 0, none⟩, 2, 2⟩, ⟨some ⟨b45, 0, none⟩, 2, 2⟩] rfl rfl)
    simp only [List.set_cons_zero, List.set_cons_succ] at st
    have st := (((st.freeze 0 rfl).freeze 0 rfl).freeze 0 rfl).freeze 0 rfl
    simp only [List.nil_append, List.cons_append, List.eraseIdx_cons_zero] at st
    have w0 : (0 : Int) ≤ 0 ∧ (0 : Int) < 4294967296 := by decide
    have hle : ∀ (j : Nat) (hj : j < 3) {h' : Heap}, Ext [] h9 h' → ∃ lj : List Ent, At h' (le lj ([(⟨some ⟨b41, 0, none⟩, 1, 1⟩ : Sl), ⟨some ⟨b43, 0, none⟩, 2, 2⟩, ⟨some ⟨b45, 0, none⟩, 2, 2⟩][j]'(by simpa using hj))) ∧ WE lj ∧ lj.length ≤ 100 := by
      intro j hj h' x'
      match j, hj with
      | 0, _ =>
        refine ⟨[x], ((st.fz 1 rfl).rsn wideE).ext x', fun y hy => ?_, by simp⟩
        simp only [List.mem_singleton] at hy
        subst hy; exact hx
      | 1, _ =>
        refine ⟨[x, (0, 0, 3, ())], ((st.fz 2 rfl).rsn wideE).ext x', fun y hy => ?_, by simp⟩
        simp only [List.mem_cons, List.not_mem_nil, or_false] at hy
        rcases hy with rfl | rfl
        · exact hx
        · exact w0
      | 2, _ =>
        refine ⟨[(0, 0, 3, ()), x], ((st.fz 3 rfl).rsn wideE).ext x', fun y hy => ?_, by simp⟩
        simp only [List.mem_cons, List.not_mem_nil, or_false] at hy
        rcases hy with rfl | rfl
        · exact w0
        · exact hx
    refine lfp_invh (I := fun μ σ h' => ∃ j : Nat, σ = ((j : Int), false, ()) ∧ j ≤ 3 ∧ Ext [] h9 h' ∧ μ = 3 - j) ⟨_, 0, rfl, by omega, Ext.refl' _ _, rfl⟩ ?_
    rintro μ2 σ h10 X2 ⟨j, rfl, hj, x10, em2⟩ hX2
    simp only
    by_cases hlt2 : j < 3
    · rw [decide_eq_true (show (j : Int) < 3 by omega), brB_true, inc_i (show j < 4611686018427387904 by omega)]
      obtain ⟨lj, hA, hw, hl⟩ := hle j hlt2 x10
      refine rdE (τ := .sl) (s := ⟨some ⟨b46, 0, none⟩, 3, 3⟩) ((st.fz 4 rfl).rsl.ext x10) (show j < 3 from hlt2) ?_
      generalize ([(⟨some ⟨b41, 0, none⟩, 1, 1⟩ : Sl), ⟨some ⟨b43, 0, none⟩, 2, 2⟩, ⟨some ⟨b45, 0, none⟩, 2, 2⟩][j]'(by simpa using hlt2)) = x50 at *
      exact small3 hA hw hl fun h' x' => hX2 _ _ _ ⟨j + 1, rfl, by omega, x10.nil_trans x', rfl⟩ (by omega)
    rw [decide_eq_false (show ¬ (j : Int) < 3 by omega), brB_false, inc_i (show n < 4611686018427387904 by omega)]
    have st := st.ext x10
    exact hX _ _ _ ⟨n + 1, rfl, by omega, Hs.takeG (G := [le L7 ⟨some ⟨b34, 0, none⟩, 7, 7⟩]) st, rfl⟩ (by omega)
  rw [decide_eq_false (show ¬ (n : Int) < 7 by omega), brB_false]
  clear hX X em hlt hn m7 l7
  have st : Hs [([], h)] [] [] h4 := Hs.takeG (G := []) st
  -- as many as may be, and one more
  refine Hs.mksN (len := 4097) (x := ((0, 0, 0, ()) : Ent)) st wideE (by decide) rfl (by decide) (by decide) fun s62 h5 st => ?_
  obtain ⟨N, hN⟩ : ∃ N : Nat, N = 4096 := ⟨_, rfl⟩
  rw [show (4097 : Nat) = N + 1 by omega] at st
  simp only [List.nil_append] at st
  have st := (st.imp 0 rfl (A' := le (List.replicate (N + 1) (0, 0, 0, ())) s62) fun S h q => osn_rsn wideE q).freeze 0 rfl
  simp only [List.nil_append, List.eraseIdx_cons_zero, List.set_cons_zero] at st
  have l62 := rsn_len (st.fz 0 rfl)
  rw [List.length_replicate] at l62
  have lN : (List.replicate (N + 1) ((0, 0, 0, ()) : Ent)).length ≤ 1099511627776 := by rw [List.length_replicate]; omega
  have lN2 : (List.replicate N ((0, 0, 0, ()) : Ent)).length ≤ 1099511627776 := by rw [List.length_replicate]; omega
  have rN : rightL (List.replicate (N + 1) ((0, 0, 0, ()) : Ent)) = false := by rw [right_rep _ _ (by decide)]; exact decide_eq_false (by omega)
  have rN2 : rightL (List.replicate N ((0, 0, 0, ()) : Ent)) = true := by rw [right_rep _ _ (by decide)]; exact decide_eq_true (by omega)
  have dr : (List.replicate (N + 1) ((0, 0, 0, ()) : Ent)).drop 1 = List.replicate N (0, 0, 0, ()) := rfl
  have c2 : countP (List.replicate N ((0, 0, 0, ()) : Ent)) = (1073741824, 0) := by
    unfold countP cntP
    rw [if_pos rN2, valids_rep]
    have := Nat.pow_le_pow_right (n := 2) (by decide) (show 30 ≤ N by omega)
    rw [Nat.min_eq_right this]; rfl
  have v2 : validP (List.replicate N ((0, 0, 0, ()) : Ent)) (List.replicate N false) = (true, 0) := by
    have hc : checkC (List.replicate N ((0, 0, 0, ()) : Ent)) (List.replicate N false) = 0 := by
      unfold checkC
      rw [if_pos rN2, List.length_replicate, List.length_replicate, if_pos rfl]
    have hv := none_valid (List.replicate N ((0, 0, 0, ()) : Ent))
    rw [List.length_replicate] at hv
    unfold validP
    rw [if_pos hc, vld_iff.2 hv]
  have c1 : countP (List.replicate (N + 1) ((0, 0, 0, ()) : Ent)) = (0, 350) := by unfold countP; rw [if_neg (by rw [rN]; decide)]
  have d1 : ∀ {h' : Heap}, At h' (le (List.replicate (N + 1) ((0, 0, 0, ()) : Ent)) s62) → At h' (le (List.replicate N ((0, 0, 0, ()) : Ent)) (slR ⟨s62.a, s62.len, s62.cap⟩ (Int.toNat 1) s62.len 3)) := fun q => by
    have := rsn_drop q (l := 1) (by rw [List.length_replicate]; omega)
    rw [dr] at this; exact this
  generalize List.replicate (N + 1) ((0, 0, 0, ()) : Ent) = la at *
  generalize List.replicate N ((0, 0, 0, ()) : Ent) = lb0 at *
  clear dr
  refine call_of (count_c (st.fz 0 rfl) lN) ?_
  rintro _ h6 ⟨rfl, x6⟩
  have st := st.ext x6
  rw [c1]
  refine ⟨by decide, by simp only; omega, ?_⟩
  refine call_of (count_c (d1 (st.fz 0 rfl)) lN2) ?_
  rintro _ h7 ⟨rfl, x7⟩
  have st := st.ext x7
  rw [c2]
  refine ⟨by decide, by simp only; omega, ?_⟩
  refine Hs.mks1 (n := 4096) (τ := .bool) (z := false) st (by decide) (by decide) fun s67 h8 st => ?_
  rw [show (4096 : Nat) = N from hN.symm] at st
  simp only [List.nil_append] at st
  refine call_of (pairs_c (k := List.replicate N false) (s2 := s67) (d1 (st.fz 0 rfl)) (st.own 0 rfl).rsl lN2) ?_
  rintro _ h9 ⟨rfl, x9⟩
  have st := st.ext x9
  rw [v2]
  show (brB true (brB true (brB true (brB true (brB true _ _) _) _) _) _) h9
  rw [brB_true, brB_true, brB_true, brB_true, brB_true]
  refine call_of (right_c (st.fz 0 rfl) lN) ?_
  rintro _ h10 ⟨er, x10⟩
  have st := st.ext x10
  rw [er, rN, Bool.not_false, brB_true]
  refine ⟨by decide, by simp only; omega, ?_⟩
  refine call_of (right_c (d1 (st.fz 0 rfl)) lN2) ?_
  rintro _ h11 ⟨er, x11⟩
  have st := st.ext x11
  rw [er, rN2, brB_true]
  refine call_of awake_c ?_
  rintro _ h12 ⟨rfl, x12⟩
  exact hK _ _ ⟨rfl, (st.ext x12).frame (by simp)⟩

end Go.Proofs.S
