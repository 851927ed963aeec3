/-
  The reference of the order against the order: First, All, Bump, New.
-/
import Derived.Test.YtkfdfbgceockpaaSxWi
set_option linter.unusedVariables false
set_option linter.unusedSimpArgs false
namespace Go.Proofs.OrdG
open Go Go.Sx Go.Proofs Go.Proofs.Ord

/-! ### plain -/

def flags (n : Nat) (L : List Int) : List Int := (List.range n).map fun k => if ((k + 1 : Nat) : Int) ∈ L then 1 else 0

theorem flags_len (n : Nat) (L : List Int) : (flags n L).length = n := by simp [flags]
theorem flags_congr {n : Nat} {L M : List Int} (hm : ∀ x, x ∈ L ↔ x ∈ M) : flags n L = flags n M := by
  unfold flags; exact List.map_congr_left fun k _ => by simp only [hm]
theorem g_flags {n k : Nat} {L : List Int} (hk : k < n) : g (flags n L) k = if ((k + 1 : Nat) : Int) ∈ L then 1 else 0 := by
  simp [g, flags, List.getD_eq_getElem?_getD, hk]
theorem g_tail (xs : List Int) (k : Nat) : g xs.tail k = g xs (k + 1) := by
  cases xs with
  | nil => rfl
  | cons x xs => simp [g, List.getD_eq_getElem?_getD]
theorem flags_set {n v : Nat} {L M : List Int} {x : Int} (h1 : 1 ≤ v) (hv : v ≤ n) (hx : x = if (v : Int) ∈ M then 1 else 0) (hm : ∀ u : Int, u ≠ v → (u ∈ M ↔ u ∈ L)) : (flags n L).set (v - 1) x = flags n M := by
  refine ext_g (by simp [flags_len]) fun i hi => ?_
  simp [flags_len] at hi
  rw [g_set, g_flags hi, g_flags hi]
  by_cases he : v - 1 = i
  · rw [if_pos ⟨he, by rw [flags_len]; exact hi⟩, hx, show ((i + 1 : Nat) : Int) = (v : Int) by omega]
  · rw [if_neg (by omega)]
    simp only [hm ((i + 1 : Nat) : Int) (by omega)]

theorem bst_head {act L : List Int} {n : Nat} (hl : act.length = n + 1) (hs : Sorted act L) (hb : ∀ x ∈ L, 1 ≤ x ∧ x ≤ n) : (bst act.tail (flags n L) n : Int) = L.headD 0 := by
  have key : ∀ k, k ≤ n → (bst act.tail (flags n L) k = 0 → ∀ u ∈ L, ¬ u ≤ (k : Int)) ∧
      (bst act.tail (flags n L) k ≠ 0 → ((bst act.tail (flags n L) k : Nat) : Int) ∈ L ∧ ∀ u ∈ L, u ≤ (k : Int) → u = (bst act.tail (flags n L) k : Nat) ∨ bef act (bst act.tail (flags n L) k : Nat) u = true) := by
    intro k
    induction k with
    | zero => exact fun _ => ⟨fun _ u hu => by have := (hb u hu).1; omega, fun h => absurd rfl h⟩
    | succ k ih =>
      intro hk
      obtain ⟨i0, i1⟩ := ih (by omega)
      have hle := bst_le act.tail (flags n L) k
      by_cases hin : ((k + 1 : Nat) : Int) ∈ L
      · have hg : g (flags n L) k = 1 := by rw [g_flags (by omega), if_pos hin]
        by_cases hc : bst act.tail (flags n L) k = 0 ∨ g act.tail k > g act.tail (bst act.tail (flags n L) k - 1)
        · have e : bst act.tail (flags n L) (k + 1) = k + 1 := by simp only [bst]; rw [if_pos ⟨hg, hc⟩]
          rw [e]
          refine ⟨fun h => by omega, fun _ => ⟨hin, fun u hu hle' => ?_⟩⟩
          by_cases hu1 : u = ((k + 1 : Nat) : Int)
          · exact .inl hu1
          · right
            rcases hc with h0 | hc
            · exact absurd (show u ≤ (k : Int) by omega) (i0 h0 u hu)
            · have hne : bst act.tail (flags n L) k ≠ 0 := by
                intro h0
                exact absurd (show u ≤ (k : Int) by omega) (i0 h0 u hu)
              obtain ⟨m1, m2⟩ := i1 hne
              rw [g_tail, g_tail, show bst act.tail (flags n L) k - 1 + 1 = bst act.tail (flags n L) k by omega] at hc
              rw [bef_iff]
              simp only [Int.toNat_natCast]
              rcases m2 u hu (by omega) with h | h
              · left; rw [h]; simpa using hc
              · rcases bef_iff.1 h with h | ⟨h, _⟩
                · left; simp at h; omega
                · left; simp at h; omega
        · have e : bst act.tail (flags n L) (k + 1) = bst act.tail (flags n L) k := by simp only [bst]; rw [if_neg (fun h => hc h.2)]
          rw [e]
          simp only [not_or] at hc
          obtain ⟨m1, m2⟩ := i1 hc.1
          refine ⟨fun h => absurd h hc.1, fun _ => ⟨m1, fun u hu hle' => ?_⟩⟩
          by_cases hu1 : u = ((k + 1 : Nat) : Int)
          · right
            have h2 := hc.2
            rw [g_tail, g_tail, show bst act.tail (flags n L) k - 1 + 1 = bst act.tail (flags n L) k by omega] at h2
            rw [bef_iff, hu1]
            simp only [Int.toNat_natCast]
            omega
          · exact m2 u hu (by omega)
      · have hg : g (flags n L) k = 0 := by rw [g_flags (by omega), if_neg hin]
        have e : bst act.tail (flags n L) (k + 1) = bst act.tail (flags n L) k := by simp only [bst]; rw [if_neg (fun h => by rw [hg] at h; exact absurd h.1 (by decide))]
        rw [e]
        refine ⟨fun h u hu hle' => ?_, fun h => ⟨(i1 h).1, fun u hu hle' => ?_⟩⟩
        · by_cases hu1 : u = ((k + 1 : Nat) : Int)
          · exact hin (hu1 ▸ hu)
          · exact i0 h u hu (by omega)
        · by_cases hu1 : u = ((k + 1 : Nat) : Int)
          · exact absurd (hu1 ▸ hu) hin
          · exact (i1 h).2 u hu (by omega)
  obtain ⟨k0, k1⟩ := key n (Nat.le_refl _)
  cases L with
  | nil =>
    by_cases h0 : bst act.tail (flags n []) n = 0
    · rw [h0]; rfl
    · exact absurd (k1 h0).1 (by simp)
  | cons x r =>
    have hx := hb x (by simp)
    by_cases h0 : bst act.tail (flags n (x :: r)) n = 0
    · exact absurd hx.2 (k0 h0 x (by simp))
    · obtain ⟨m1, m2⟩ := k1 h0
      rw [List.headD_cons]
      rcases m2 x (by simp) hx.2 with h | h
      · exact h.symm
      · rcases List.mem_cons.1 m1 with h' | h'
        · exact h'
        · have h3 := (List.pairwise_cons.1 hs).1 _ h'
          rw [bef_asymm h] at h3; cases h3

/-! ### the walks -/

variable {fr : Fr} {G As : List Asn} {h : Heap} {xs I act L : List Int} {s s1 s2 : Sl} {n : Nat}

theorem firstL_c (st : Hs fr G As h) (hA : At h (ri act.tail s1)) (hI : At h (ri (flags n L) s2)) (hl : act.length = n + 1) (hn : n ≤ 2000000) (hs : Sorted act L) (hb : ∀ x ∈ L, 1 ≤ x ∧ x ≤ n) (step : Int) {K : Int → HP}
    (hK : ∀ h', Hs fr G As h' → K (L.headD 0) h') :
    callT Try.prog fn_salvorref11_First #[.agg #[.slice s1.a s1.len s1.cap, .slice s2.a s2.len s2.cap, .int .i64 step]] (.int .i64) K h := by
  refine first_c st hA hI (by rw [flags_len]; simp; omega) (by rw [flags_len]; omega) step fun h' st => ?_
  rw [flags_len, bst_head hl hs hb]
  exact hK _ st

theorem refAll_c (st : Hs fr G As h) (hA : ri act.tail s1 ∈ G) (hI : ri (flags n L) s2 ∈ G) (hl : act.length = n + 1) (hn : n ≤ 2000000) (hs : Sorted act L) (hb : ∀ x ∈ L, 1 ≤ x ∧ x ≤ n) (step : Int) {K : Sl → HP}
    (hK : ∀ s' h', Hs fr G (As ++ [oi L s']) h' → K s' h') :
    callT Try.prog fn_salvorref11_All #[.agg #[.slice s1.a s1.len s1.cap, .slice s2.a s2.len s2.cap, .int .i64 step]] .sl K h := by
  refine S_salvorref11_All (a0 := (s1, s2, step, ())) K ?_
  unfold F_salvorref11_All
  simp only [addr_add, Nat.zero_add]
  obtain ⟨st, back⟩ := st.beside
  refine st.nw fun b0 h1 st => ?_
  refine st.ldr (τ := τr) 0 rfl (s1, s2, step, ()) rfl ?_
  refine firstL_c st (st.fzm hA) (st.fzm hI) hl hn hs hb step fun h2 st => ?_
  have st := (st.nil ty_int (Value.int .i64) none).gainM hI
  have hnd := hs.nodup
  have hlen : L.length ≤ n := by
    have hsub : L.length ≤ (iota n).length := hnd.length_le_of_subset fun x hx => by
      have := hb x hx
      unfold iota
      exact List.mem_map.2 ⟨(x - 1).toNat, by simp; omega, by omega⟩
    rwa [length_iota] at hsub
  refine lfp_invh (I := fun m σ h' => ∃ pre r out s2', L = pre ++ r ∧ σ = (r.headD 0, out, ()) ∧ m = r.length ∧ Hs [([], h)] (G ++ [ri (flags n r) s2']) [cl b0 ty_salvorref11_Order [.slice s1.a s1.len s1.cap, .slice s2'.a s2'.len s2'.cap, .int .i64 step], oi pre out] h')
    ⟨_, [], L, ⟨none, 0, 0⟩, s2, rfl, rfl, rfl, st⟩ ?_
  rintro m σ h' X ⟨pre, r, out, s2', e, rfl, rfl, st⟩ hX
  simp only
  cases r with
  | nil =>
    simp only [List.headD_nil]
    simp only [gt_iff_lt, Int.lt_irrefl, decide_false, brB_false]
    rw [List.append_nil] at e
    subst e
    have st := (st.drop 0 rfl).less (G' := G) fun A hA => List.mem_append_left _ hA
    exact hK _ _ (back _ _ st)
  | cons x r =>
    have hx := hb x (by rw [e]; simp)
    simp only [List.headD_cons]
    refine brT (by simp; omega) ?_
    refine st.nw fun b5 h3 st => ?_
    refine st.apd 1 2 rfl rfl (by decide) rfl (by have := congrArg List.length e; simp at this ⊢; omega) (by decide) rfl fun s6 h4 st => ?_
    refine st.ldr (τ := τr) 0 rfl (s1, s2', step, ()) rfl ?_
    obtain ⟨v, rfl⟩ : ∃ v : Nat, x = v := ⟨x.toNat, by omega⟩
    have ndr : (((v : Int)) :: r).Nodup := by rw [e] at hnd; exact (List.nodup_append.1 hnd).2.1
    refine set_c st st.fzL s1 step (v := v) (by omega) (by rw [flags_len]; omega) (by rw [flags_len]; omega) 0 fun s8 h5 st => ?_
    have ef : (flags n ((v : Int) :: r)).set (v - 1) 0 = flags n r := flags_set (by omega) (by omega) (by rw [if_neg (List.nodup_cons.1 ndr).1]) (fun u hu => by simp [hu])
    rw [ef] at st
    refine st.st1 0 0 rfl (by simp) fun h6 st => ?_
    refine st.st1 0 1 rfl (by simp) fun h7 st => ?_
    refine st.st1 0 2 rfl (by simp) fun h8 st => ?_
    refine st.ldr (τ := τr) 0 rfl (s1, s8, step, ()) rfl ?_
    have st := (st.swapF 3 rfl).drop 2 rfl
    have sr : Sorted act r := by rw [e] at hs; exact (List.pairwise_cons.1 (List.pairwise_append.1 hs).2.1).2
    refine firstL_c st (st.fzm (List.mem_append_left _ hA)) st.fzL hl hn sr (fun y hy => hb y (by rw [e]; simp [hy])) step fun h9 st => ?_
    exact hX _ _ _ ⟨pre ++ [(v : Int)], r, s6, s8, by rw [e]; simp, rfl, rfl, st⟩ (by simp)

end Go.Proofs.OrdG

/-
  The reference of the order: Bump, New.
-/
set_option linter.unusedVariables false
set_option linter.unusedSimpArgs false
namespace Go.Proofs.OrdG
open Go Go.Sx Go.Proofs Go.Proofs.Ord

variable {fr : Fr} {G As : List Asn} {h : Heap} {xs I act L : List Int} {s s1 s2 : Sl} {n : Nat}

def mxd (T : List Int) (i : Nat) : List Int := T.mapIdx fun j x => if j < i then x / 1073741824 else x
theorem mxd_len (T : List Int) (i : Nat) : (mxd T i).length = T.length := by simp [mxd]
theorem g_mxd {T : List Int} {i j : Nat} (hj : j < T.length) : g (mxd T i) j = if j < i then g T j / 1073741824 else g T j := by
  simp [g, mxd, List.getD_eq_getElem?_getD, List.getElem?_mapIdx, List.getElem?_eq_getElem hj]
theorem mxd_zero (T : List Int) : mxd T 0 = T := ext_g (mxd_len T 0) fun i hi => by
  rw [g_mxd (by rwa [mxd_len] at hi)]; simp
theorem mxd_all (T : List Int) : mxd T T.length = T.map (· / 1073741824) := ext_g (by simp [mxd_len]) fun i hi => by
  rw [mxd_len] at hi
  rw [g_mxd hi, if_pos hi, g_map hi]
theorem mxd_step {T : List Int} {i : Nat} (hi : i < T.length) : (mxd T i).set i (g T i / 1073741824) = mxd T (i + 1) := ext_g (by simp [mxd_len]) fun j hj => by
  simp [mxd_len] at hj
  rw [g_set, g_mxd hj, g_mxd hj, mxd_len]
  by_cases h1 : i = j
  · subst h1; rw [if_pos ⟨rfl, hi⟩, if_pos (by omega)]
  · rw [if_neg (by omega)]
    by_cases h2 : j < i
    · rw [if_pos h2, if_pos (by omega)]
    · rw [if_neg h2, if_neg (by omega)]

theorem tail_set (xs : List Int) {v : Nat} (h1 : 1 ≤ v) (x : Int) : (xs.set v x).tail = xs.tail.set (v - 1) x := by
  cases xs with
  | nil => rfl
  | cons y ys =>
    obtain ⟨k, rfl⟩ : ∃ k, v = k + 1 := ⟨v - 1, by omega⟩
    rfl

theorem refBump_c (st : Hs fr G As h) (hA : At h (ri act.tail s1)) (s2 : Sl) (hl : act.length = n + 1) (hn : n ≤ 1048576) {step : Int} (lim : Lim act step) {v : Nat} (h1 : 1 ≤ v) (hv : v ≤ n) {K : τo.T → HP}
    (hK : ∀ s' h', Hs fr G (As ++ [oi (bumpA act n v step).tail s']) h' → K (s', s2, bumpS act n v step, ()) h') :
    callT Try.prog fn_salvorref11_Bump #[.agg #[.slice s1.a s1.len s1.cap, .slice s2.a s2.len s2.cap, .int .i64 step], .int .i64 v] τo K h := by
  refine S_salvorref11_Bump (a0 := (s1, s2, step, ())) (a1 := (v : Int)) K ?_
  unfold F_salvorref11_Bump
  simp only [addr_add, Nat.zero_add]
  obtain ⟨st, back⟩ := st.beside
  have htl : act.tail.length = n := by simp; omega
  have l1 := lim.lo v
  have l2 := lim.hi v
  have l3 := lim.s1
  have l4 := lim.s2
  have ew : IntKind.wrap .i64 (g act v + step) = g act v + step := wrap_i64 (by simp only [maxA] at *; omega) (by simp only [maxA] at *; omega)
  have hvv : 1 ≤ (v : Int) ∧ (v : Int) ≤ n := by omega
  refine st.nw fun b0 h2 st => ?_
  refine st.nw fun b1 h3 st => ?_
  rw [st.lds 0 0 rfl rfl, st.lds 0 0 rfl rfl, dec_i (by omega) (by omega)]
  refine riA (hA.ext (st.frame (by simp))) (i := v - 1) (by omega) ?_
  rw [st.ldi 0 2 rfl rfl, g_tail, show v - 1 + 1 = v by omega, ew]
  refine with_c st (hA.ext (st.frame (by simp))) (i := v - 1) (by omega) (by omega) (g act v + step) fun s' h4 st => ?_
  refine st.st1 0 0 rfl (by simp) fun h5 st => ?_
  rw [st.lds 0 0 rfl rfl]
  refine riA (st.own 2 rfl).rsl (i := v - 1) (by simp; omega) ?_
  rw [g_set, if_pos ⟨rfl, by omega⟩]
  have eT : act.tail.set (v - 1) (g act v + step) = (act.set v (g act v + step)).tail := (tail_set act h1 _).symm
  rw [eT] at st
  refine jn_mid (M := fun _ h' => Hs [([], h)] G [cl b0 ty_salvorref11_Order [.slice s'.a s'.len s'.cap, .slice s2.a s2.len s2.cap, .int .i64 (bumpS act n v step)], cl b1 ty_salvorref11_Order [.slice none 0 0, .slice none 0 0, .int .i64 0], oi (bumpA act n v step).tail s'] h') ?_ ?_
  · rintro _ h6 st
    refine st.ldr (τ := τr) 0 rfl (s', s2, bumpS act n v step, ()) rfl ?_
    refine st.st1 1 0 rfl (by simp) fun h7 st => ?_
    refine st.st1 1 1 rfl (by simp) fun h8 st => ?_
    refine st.st1 1 2 rfl (by simp) fun h9 st => ?_
    refine st.ldr (τ := τr) 1 rfl (s', s2, bumpS act n v step, ()) rfl ?_
    have st := (st.drop 1 rfl).drop 0 rfl
    exact hK _ _ (back _ _ st)
  · intro J hJ
    have etn : ((v : Int)).toNat = v := by simp
    by_cases hg : g act v + step > 1125899906842624
    · have eA : bumpA act n v step = (act.set v (g act v + step)).map (· / 1073741824) := by
        unfold bumpA; rw [if_pos hvv, if_pos (by simp only [etn, maxA]; omega), etn]
      have eS : bumpS act n v step = if 1 > step / 1073741824 then 1 else step / 1073741824 := by
        unfold bumpS; rw [if_pos hvv, if_pos (by simp only [etn, maxA]; omega)]
      refine brT (by simpa using hg) ?_
      obtain ⟨T, hT⟩ : ∃ T, T = (act.set v (g act v + step)).tail := ⟨_, rfl⟩
      have hTl : T.length = n := by rw [hT]; simp; omega
      have hTb : ∀ i, 0 ≤ g T i ∧ g T i ≤ 2251799813685248 := by
        intro i
        rw [hT, g_tail, g_set]
        have := lim.lo (i + 1); have := lim.hi (i + 1)
        simp only [maxA] at *
        split <;> omega
      rw [← hT] at st
      have hmT : mxd T 0 = T := mxd_zero T
      rw [← hmT] at st
      refine lfp_invh (I := fun m σ h' => ∃ i : Nat, σ = ((i : Int), ()) ∧ i ≤ n ∧ m = n - i ∧ Hs [([], h)] G [cl b0 ty_salvorref11_Order [.slice s'.a s'.len s'.cap, .slice s2.a s2.len s2.cap, .int .i64 step], cl b1 ty_salvorref11_Order [.slice none 0 0, .slice none 0 0, .int .i64 0], oi (mxd T i) s'] h')
        ⟨_, 0, rfl, by omega, rfl, st⟩ ?_
      rintro m σ h' X ⟨i, rfl, hi, rfl, st⟩ hX
      have lens := osl_len (st.own 2 rfl)
      rw [mxd_len, hTl] at lens
      rw [st.lds 0 0 rfl rfl]
      simp only
      by_cases hlt : i < n
      · refine brT (by simp; omega) ?_
        rw [st.lds 0 0 rfl rfl, st.lds 0 0 rfl rfl]
        refine riA (st.own 2 rfl).rsl (i := i) (by rw [mxd_len]; omega) ?_
        have hb := hTb i
        rw [g_mxd (by omega), if_neg (by omega), nz_ok (show (1073741824 : Int) ≠ 0 by decide), Int.tdiv_eq_ediv_of_nonneg hb.1, wrap_i64 (by omega) (by omega), inc_i (by omega)]
        refine st.wrE (τ := .int .i64) 2 rfl (i := i) (by rw [mxd_len]; omega) (g T i / 1073741824) fun h7 st => ?_
        rw [mxd_step (by omega)] at st
        exact hX _ _ _ ⟨i + 1, rfl, by omega, rfl, st⟩ (by omega)
      · refine brF (by simp; omega) ?_
        have : i = n := by omega
        subst this
        have em : mxd T i = (bumpA act i v step).tail := by rw [← hTl, mxd_all, hTl, hT, eA, ← List.map_tail]
        rw [em] at st
        rw [st.ldi 0 2 rfl rfl, nz_ok (show (1073741824 : Int) ≠ 0 by decide), Int.tdiv_eq_ediv_of_nonneg (by omega), wrap_i64 (by simp only [maxA] at *; omega) (by simp only [maxA] at *; omega)]
        refine st.st1 0 2 rfl (by simp) fun h7 st => ?_
        rw [st.ldi 0 2 rfl rfl]
        refine jn_in fun J2 hJ2 => ?_
        rw [eS] at hJ
        by_cases h0 : step / 1073741824 < 1
        · refine brT (by simpa using h0) ?_
          refine st.st1 0 2 rfl (by simp) fun h8 st => ?_
          refine hJ2 _ _ (hJ _ _ ?_)
          rw [if_pos (by omega)]; exact st
        · refine brF (by simpa using h0) ?_
          refine hJ2 _ _ (hJ _ _ ?_)
          rw [if_neg (by omega)]; exact st
    · refine brF (by simpa using hg) ?_
      have eA : bumpA act n v step = act.set v (g act v + step) := by
        unfold bumpA; rw [if_pos hvv, if_neg (by simp only [etn, maxA]; omega), etn]
      have eS : bumpS act n v step = step := by
        unfold bumpS; rw [if_pos hvv, if_neg (by simp only [etn, maxA]; omega)]
      rw [eA, eS] at hJ
      exact hJ _ _ st

theorem refNew_c (st : Hs fr G As h) {n : Nat} (hn : n ≤ 1048576) {K : τo.T → HP}
    (hK : ∀ s' s'' h', Hs fr G (As ++ [oi (List.replicate n 0) s', oi (List.replicate n 1) s'']) h' → K (s', s'', 1024, ()) h') :
    callT Try.prog fn_salvorref11_New #[.int .i64 n] τo K h := by
  refine S_salvorref11_New (a0 := (n : Int)) K ?_
  unfold F_salvorref11_New
  simp only [addr_add, Nat.zero_add]
  obtain ⟨st, back⟩ := st.beside
  refine st.nw fun b0 h1 st => ?_
  refine st.nw fun b1 h2 st => ?_
  refine st.st1 1 0 rfl (by simp) fun h3 st => ?_
  refine st.st1 1 1 rfl (by simp) fun h4 st => ?_
  refine st.st1 1 2 rfl (by simp) fun h5 st => ?_
  have st := (st.nil ty_int (Value.int .i64) none).nil ty_int (Value.int .i64) none
  refine lfp_invh (I := fun m σ h' => ∃ (i : Nat) (sA sI : Sl), σ = (((i : Nat) : Int), ()) ∧ i ≤ n ∧ m = n - i ∧ Hs [([], h)] G [cl b0 ty_salvorref11_Order [.slice none 0 0, .slice none 0 0, .int .i64 0], cl b1 ty_salvorref11_Order [.slice sA.a sA.len sA.cap, .slice sI.a sI.len sI.cap, .int .i64 1024], oi (List.replicate i 0) sA, oi (List.replicate i 1) sI] h')
    ⟨_, 0, ⟨none, 0, 0⟩, ⟨none, 0, 0⟩, rfl, by omega, rfl, st⟩ ?_
  rintro m σ h' X ⟨i, sA, sI, rfl, hi, rfl, st⟩ hX
  simp only
  by_cases hlt : i < n
  · refine brT (by simp; omega) ?_
    rw [st.lds 1 0 rfl rfl, st.lds 1 1 rfl rfl, inc_i (by omega)]
    have fin : ∀ {sA' sI' : Sl} {b2 b3 : Nat} {x y : Int} {h' : Heap}, Hs [([], h)] G [cl b0 ty_salvorref11_Order [.slice none 0 0, .slice none 0 0, .int .i64 0], cl b1 ty_salvorref11_Order [.slice sA.a sA.len sA.cap, .slice sI.a sI.len sI.cap, .int .i64 1024], oi (List.replicate i 0 ++ [0]) sA', oi (List.replicate i 1 ++ [1]) sI', cl b2 ty_int [.int .i64 x], cl b3 ty_int [.int .i64 y]] h' →
        (st1 (⟨b1, 0, none⟩ : Addr) (.slice sA'.a sA'.len sA'.cap) <| st1 (⟨b1, 1, none⟩ : Addr) (.slice sI'.a sI'.len sI'.cap) <| X (((i + 1 : Nat) : Int), ())) h' := by
      intro sA' sI' b2 b3 x y h' st
      have st := (st.drop 5 rfl).drop 4 rfl
      refine st.st1 1 0 rfl (by simp) fun h7 st => ?_
      refine st.st1 1 1 rfl (by simp) fun h8 st => ?_
      rw [← List.replicate_succ', ← List.replicate_succ'] at st
      exact hX _ _ _ ⟨i + 1, sA', sI', rfl, by omega, rfl, st⟩ (by omega)
    refine ⟨?_, ?_⟩
    · refine st.nw fun b6 h6 st => ?_
      refine ⟨?_, ?_⟩
      · refine st.apd 2 4 rfl rfl (by decide) rfl (by simp; omega) (by decide) rfl fun s7 h7 st => ?_
        rw [st.ck 1 1 rfl rfl]
        refine st.nw fun b8 h8 st => ?_
        refine st.apd 3 5 rfl rfl (by decide) rfl (by simp; omega) (by decide) rfl fun s9 h9 st => ?_
        exact fin st
      · refine st.nw fun b10 h7 st => ?_
        refine st.apd 2 4 rfl rfl (by decide) rfl (by simp; omega) (by decide) rfl fun s7 h8 st => ?_
        rw [st.ck 1 1 rfl rfl]
        refine st.apd 3 5 rfl rfl (by decide) rfl (by simp; omega) (by decide) rfl fun s9 h9 st => ?_
        exact fin st
    · refine st.nw fun b13 h6 st => ?_
      refine st.nw fun b14 h7 st => ?_
      refine st.apd 2 5 rfl rfl (by decide) rfl (by simp; omega) (by decide) rfl fun s7 h8 st => ?_
      rw [st.ck 1 1 rfl rfl]
      refine st.apd 3 4 rfl rfl (by decide) rfl (by simp; omega) (by decide) rfl fun s9 h9 st => ?_
      exact fin st
  · refine brF (by simp; omega) ?_
    have : i = n := by omega
    subst this
    refine st.ldr (τ := τr) 1 rfl (sA, sI, 1024, ()) rfl ?_
    refine st.st1 0 0 rfl (by simp) fun h6 st => ?_
    refine st.st1 0 1 rfl (by simp) fun h7 st => ?_
    refine st.st1 0 2 rfl (by simp) fun h8 st => ?_
    refine st.ldr (τ := τr) 0 rfl (sA, sI, 1024, ()) rfl ?_
    have st := (st.drop 1 rfl).drop 0 rfl
    exact hK _ _ _ (back _ _ st)

end Go.Proofs.OrdG
