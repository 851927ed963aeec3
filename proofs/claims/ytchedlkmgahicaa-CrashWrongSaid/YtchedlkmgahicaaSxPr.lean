/-
  The sort sorts: the partitions, the steps of a row that is nearly sorted, and all of it; over any element of one cell.
-/
import Derived.Test.YtchedlkmgahicaaSxPq
set_option linter.unusedVariables false
namespace Go.Sx
open Go Go.Sort

section
variable {P : Program} {τ : Ty} {f : SF} {b : Nat} {t : TypeId} {rest : List Value} {h0 h : Heap} {d : Array τ.T} {n cap : Nat} {lt : τ.T → τ.T → Bool} {M : τ.T → Prop} {cmp : Value}

def TestOk (τ : Ty) (b : Nat) (t : TypeId) (rest : List Value) (h0 : Heap) (d : Array τ.T) (n : Nat) (p : τ.T → Bool) (T : Int → HP → HP → HP) : Prop :=
  ∀ (i : Nat) (h : Heap) (A B : HP), i < n → Rw τ b t rest h0 d h → (∀ h', Rw τ b t rest h0 d h' → (p d[i]! = true → A h') ∧ (p d[i]! = false → B h')) → T (i : Int) A B h

theorem scanUp_ok {p : τ.T → Bool} {T : Int → HP → HP → HP} (hT : TestOk τ b t rest h0 d n p T) (hn4 : n ≤ 1099511627776) {j i0 : Nat} (hj : j < n) {J : Int × Unit → HP} (r : Rw τ b t rest h0 d h)
    (hJ : ∀ h', Rw τ b t rest h0 d h' → J ((scanUp p d j i0 : Nat), ()) h') :
    lfp (σ := Int × Unit) (fun X s => brB (decide (s.1 ≤ (j : Int))) (T s.1 (X (IntKind.wrap .i64 (s.1 + (1 : Int)), ())) (J (s.1, ()))) (J (s.1, ()))) ((i0 : Int), ()) h := by
  refine lfp_invh (I := fun m σ h' => ∃ i : Nat, σ = ((i : Int), ()) ∧ Rw τ b t rest h0 d h' ∧ scanUp p d j i = scanUp p d j i0 ∧ m = j + 1 - i) ⟨_, i0, rfl, r, rfl, rfl⟩ ?_
  clear r
  rintro m σ h1 X ⟨i, rfl, r, hD, em⟩ hX
  rw [scanUp] at hD
  by_cases hij : i ≤ j
  · have e : decide ((i : Int) ≤ (j : Int)) = true := by simp; omega
    rw [e, brB_true]
    refine hT i h1 _ _ (by omega) r fun h2 r2 => ⟨fun hp => ?_, fun hp => ?_⟩
    · have ec : (decide (i ≤ j) && p d[i]!) = true := by rw [hp]; simp; omega
      rw [if_pos ec] at hD
      rw [w64 (by omega) (by omega)]
      exact hX _ _ _ ⟨i + 1, by simp, r2, hD, rfl⟩ (by omega)
    · have ec : (decide (i ≤ j) && p d[i]!) = false := by rw [hp]; simp
      rw [ec, if_neg (by simp)] at hD
      rw [hD]; exact hJ h2 r2
  · have e : decide ((i : Int) ≤ (j : Int)) = false := by simp; omega
    have ec : (decide (i ≤ j) && p d[i]!) = false := by
      have : decide (i ≤ j) = false := by simp; omega
      rw [this]; rfl
    rw [ec, if_neg (by simp)] at hD
    rw [e, brB_false, hD]; exact hJ h1 r

theorem scanDown_ok {p : τ.T → Bool} {T : Int → HP → HP → HP} (hT : TestOk τ b t rest h0 d n p T) (hn4 : n ≤ 1099511627776) {i j0 : Nat} (hj : j0 < n) (hi : 1 ≤ i) {J : Int × Unit → HP} (r : Rw τ b t rest h0 d h)
    (hJ : ∀ h', Rw τ b t rest h0 d h' → J ((scanDown p d i j0 : Nat), ()) h') :
    lfp (σ := Int × Unit) (fun X s => brB (decide ((i : Int) ≤ s.1)) (T s.1 (X (IntKind.wrap .i64 (s.1 - (1 : Int)), ())) (J (s.1, ()))) (J (s.1, ()))) ((j0 : Int), ()) h := by
  refine lfp_invh (I := fun m σ h' => ∃ j : Nat, σ = ((j : Int), ()) ∧ j ≤ j0 ∧ Rw τ b t rest h0 d h' ∧ scanDown p d i j = scanDown p d i j0 ∧ m = j) ⟨_, j0, rfl, Nat.le_refl _, r, rfl, rfl⟩ ?_
  clear r
  rintro m σ h1 X ⟨j, rfl, hj0, r, hD, em⟩ hX
  cases j with
  | zero =>
    have e : decide ((i : Int) ≤ ((0 : Nat) : Int)) = false := by simp; omega
    rw [e, brB_false]
    have := hJ h1 r
    rw [← hD] at this; exact this
  | succ k =>
    rw [scanDown] at hD
    by_cases hij : i ≤ k + 1
    · have e : decide ((i : Int) ≤ ((k + 1 : Nat) : Int)) = true := by simp; omega
      rw [e, brB_true]
      refine hT (k + 1) h1 _ _ (by omega) r fun h2 r2 => ⟨fun hp => ?_, fun hp => ?_⟩
      · have ec : (decide (i ≤ k + 1) && p d[k + 1]!) = true := by rw [hp]; simp; omega
        rw [if_pos ec] at hD
        have ek : IntKind.wrap .i64 (((k + 1 : Nat) : Int) - 1) = (k : Int) := by rw [w64 (by omega) (by omega)]; omega
        rw [ek]
        exact hX _ _ _ ⟨k, rfl, by omega, r2, hD, rfl⟩ (by omega)
      · have ec : (decide (i ≤ k + 1) && p d[k + 1]!) = false := by rw [hp]; simp
        rw [ec, if_neg (by simp)] at hD
        rw [hD]; exact hJ h2 r2
    · have e : decide ((i : Int) ≤ ((k + 1 : Nat) : Int)) = false := by simp; omega
      have ec : (decide (i ≤ k + 1) && p d[k + 1]!) = false := by
        have : decide (i ≤ k + 1) = false := by simp; omega
        rw [this]; rfl
      rw [ec, if_neg (by simp)] at hD
      rw [e, brB_false, hD]; exact hJ h1 r

def tLt (P : Program) (τ : Ty) (b n a : Nat) (cmp : Value) (i : Int) (A B : HP) : HP :=
  sx (some ⟨b, 0, none⟩) n i 1 fun p => ldT τ p fun x => sx (some ⟨b, 0, none⟩) n (a : Int) 1 fun q => ldT τ q fun y => callF P cmp #[τ.enc x, τ.enc y] (.int .i64) fun k => brB (decide (k < (0 : Int))) A B
def tGe (P : Program) (τ : Ty) (b n a : Nat) (cmp : Value) (i : Int) (A B : HP) : HP :=
  sx (some ⟨b, 0, none⟩) n i 1 fun p => ldT τ p fun x => sx (some ⟨b, 0, none⟩) n (a : Int) 1 fun q => ldT τ q fun y => callF P cmp #[τ.enc x, τ.enc y] (.int .i64) fun k => brB (!(decide (k < (0 : Int)))) A B
def tLt' (P : Program) (τ : Ty) (b n a : Nat) (cmp : Value) (i : Int) (A B : HP) : HP :=
  sx (some ⟨b, 0, none⟩) n (a : Int) 1 fun p => ldT τ p fun x => sx (some ⟨b, 0, none⟩) n i 1 fun q => ldT τ q fun y => callF P cmp #[τ.enc x, τ.enc y] (.int .i64) fun k => brB (decide (k < (0 : Int))) A B
def tGe' (P : Program) (τ : Ty) (b n a : Nat) (cmp : Value) (i : Int) (A B : HP) : HP :=
  sx (some ⟨b, 0, none⟩) n (a : Int) 1 fun p => ldT τ p fun x => sx (some ⟨b, 0, none⟩) n i 1 fun q => ldT τ q fun y => callF P cmp #[τ.enc x, τ.enc y] (.int .i64) fun k => brB (!(decide (k < (0 : Int)))) A B

theorem tLt_ok (hc : CmpOk P τ b h0 lt M cmp) (hn : d.size = n) (hM : ∀ i, i < n → M d[i]!) {a : Nat} (ha : a < n) : TestOk τ b t rest h0 d n (fun x => lt x d[a]!) (tLt P τ b n a cmp) := by
  intro i h A B hi r hAB
  refine r.cm hn hc hM rfl rfl hi ha ?_
  intro k h' hk r'
  rw [dec_of hk]
  cases hl : lt d[i]! d[a]! with
  | true => exact (hAB h' r').1 hl
  | false => exact (hAB h' r').2 hl
theorem tGe_ok (hc : CmpOk P τ b h0 lt M cmp) (hn : d.size = n) (hM : ∀ i, i < n → M d[i]!) {a : Nat} (ha : a < n) : TestOk τ b t rest h0 d n (fun x => !lt x d[a]!) (tGe P τ b n a cmp) := by
  intro i h A B hi r hAB
  refine r.cm hn hc hM rfl rfl hi ha ?_
  intro k h' hk r'
  rw [dec_of hk]
  cases hl : lt d[i]! d[a]! with
  | true => exact (hAB h' r').2 (by simp [hl])
  | false => exact (hAB h' r').1 (by simp [hl])
theorem tLt'_ok (hc : CmpOk P τ b h0 lt M cmp) (hn : d.size = n) (hM : ∀ i, i < n → M d[i]!) {a : Nat} (ha : a < n) : TestOk τ b t rest h0 d n (fun x => lt d[a]! x) (tLt' P τ b n a cmp) := by
  intro i h A B hi r hAB
  refine r.cm hn hc hM rfl rfl ha hi ?_
  intro k h' hk r'
  rw [dec_of hk]
  cases hl : lt d[a]! d[i]! with
  | true => exact (hAB h' r').1 hl
  | false => exact (hAB h' r').2 hl
theorem tGe'_ok (hc : CmpOk P τ b h0 lt M cmp) (hn : d.size = n) (hM : ∀ i, i < n → M d[i]!) {a : Nat} (ha : a < n) : TestOk τ b t rest h0 d n (fun x => !lt d[a]! x) (tGe' P τ b n a cmp) := by
  intro i h A B hi r hAB
  refine r.cm hn hc hM rfl rfl ha hi ?_
  intro k h' hk r'
  rw [dec_of hk]
  cases hl : lt d[a]! d[i]! with
  | true => exact (hAB h' r').2 (by simp [hl])
  | false => exact (hAB h' r').1 (by simp [hl])

theorem peq_c (S : Sorts P τ f) (hn4 : n ≤ 1099511627776) (hc : CmpOk P τ b h0 lt M cmp) {a c pv : Nat} (hap : a ≤ pv) (hpc : pv < c) (hcn : c ≤ n) (r : Rw τ b t rest h0 d h) (hn : d.size = n) (hM : ∀ i, i < n → M d[i]!) :
    callT P f.peq #[.slice (some ⟨b, 0, none⟩) n cap, .int .i64 a, .int .i64 c, .int .i64 pv, cmp] (.int .i64)
      (fun x h' => x = ((partitionEqual lt d a c pv).1 : Nat) ∧ Rw τ b t rest h0 (partitionEqual lt d a c pv).2 h') h := by
  refine S.peq (a0 := rowS b n cap) (a1 := a) (a2 := c) (a3 := pv) (a4 := cmp) _ ?_
  unfold G_peq
  refine r.swap hn rfl rfl (show a < n by omega) (show pv < n by omega) fun h1 r1 => ?_
  have e1 : IntKind.wrap .i64 ((c : Int) - 1) = ((c - 1 : Nat) : Int) := by rw [w64 (by omega) (by omega)]; omega
  have e2 : IntKind.wrap .i64 ((a : Int) + 1) = ((a + 1 : Nat) : Int) := by rw [w64 (by omega) (by omega)]; omega
  rw [e1, e2]
  refine lfp_invh (I := fun m σ h' => ∃ (i j : Nat) (d' : Array τ.T), σ = ((j : Int), (i : Int), ()) ∧ a < i ∧ i ≤ j + 1 ∧ j < c ∧ d'.size = n ∧ (∀ i, i < n → M d'[i]!) ∧ Rw τ b t rest h0 d' h' ∧ partEqLoop lt a i j d' = partitionEqual lt d a c pv ∧ m = j + 1 - i)
    ⟨_, a + 1, c - 1, _, rfl, by omega, by omega, by omega, by rw [size_swp']; exact hn, M_swp hM hn (by omega) (by omega), r1, rfl, rfl⟩ ?_
  clear r r1 hn hM
  rintro m σ h2 X ⟨i, j, d1, rfl, hai, hij, hjc, hn, hM, r, hD, em⟩ hX
  rw [partEqLoop_eq] at hD
  obtain ⟨u1, u2, _, u4⟩ := scanUp_spec (fun x => !lt d1[a]! x) d1 j _ i rfl
  generalize hi2 : scanUp (fun x => !lt d1[a]! x) d1 j i = i2 at *
  obtain ⟨v1, v2, _, v4⟩ := scanDown_spec (fun x => lt d1[a]! x) d1 i2 j
  generalize hj2 : scanDown (fun x => lt d1[a]! x) d1 i2 j = j2 at *
  have u2 := u2 hij
  have hne : i2 ≤ j2 → i2 < j2 := fun hle => by
    rcases Nat.lt_or_eq_of_le hle with k | k
    · exact k
    · have a1 := u4 (by omega)
      have a2 := v4 hle (by omega)
      rw [← k] at a2
      simp only [a2] at a1; cases a1
  refine jn_mid (M := fun s h' => s = ((i2 : Int), ()) ∧ Rw τ b t rest h0 d1 h') ?_ ?_
  · rintro s h3 ⟨rfl, r3⟩
    refine jn_mid (M := fun s h' => s = ((j2 : Int), ()) ∧ Rw τ b t rest h0 d1 h') ?_ ?_
    · rintro s h4 ⟨rfl, r4⟩
      by_cases hg : i2 > j2
      · rw [if_pos hg] at hD
        have e : decide ((i2 : Int) > (j2 : Int)) = true := by simp; omega
        simp only [e, brB_true]
        rw [← hD]; exact ⟨rfl, r4⟩
      · rw [if_neg hg] at hD
        have hlt2 := hne (by omega)
        have e : decide ((i2 : Int) > (j2 : Int)) = false := by simp; omega
        simp only [e, brB_false]
        refine r4.swap hn rfl rfl (show i2 < n by omega) (show j2 < n by omega) fun h5 r5 => ?_
        have e1 : IntKind.wrap .i64 ((j2 : Int) - 1) = ((j2 - 1 : Nat) : Int) := by rw [w64 (by omega) (by omega)]; omega
        have e2 : IntKind.wrap .i64 ((i2 : Int) + 1) = ((i2 + 1 : Nat) : Int) := by rw [w64 (by omega) (by omega)]; omega
        rw [e1, e2]
        exact hX _ _ _ ⟨i2 + 1, j2 - 1, _, rfl, by omega, by omega, by omega, by rw [size_swp']; exact hn, M_swp hM hn (by omega) (by omega), r5, hD, rfl⟩ (by omega)
    · intro J hJ
      refine scanDown_ok (tLt'_ok (t := t) (rest := rest) hc hn hM (show a < n by omega)) hn4 (show j < n by omega) (by omega) r3 fun h4 r4 => ?_
      rw [hj2]; exact hJ _ _ ⟨rfl, r4⟩
  · intro J hJ
    refine scanUp_ok (tGe'_ok (t := t) (rest := rest) hc hn hM (show a < n by omega)) hn4 (show j < n by omega) r fun h4 r4 => ?_
    rw [hi2]; exact hJ _ _ ⟨rfl, r4⟩

theorem part_c (S : Sorts P τ f) (hn4 : n ≤ 1099511627776) (hc : CmpOk P τ b h0 lt M cmp) {a c pv : Nat} (hap : a ≤ pv) (hpc : pv < c) (hac : a + 1 < c) (hcn : c ≤ n) (r : Rw τ b t rest h0 d h) (hn : d.size = n) (hM : ∀ i, i < n → M d[i]!) :
    callT P f.part #[.slice (some ⟨b, 0, none⟩) n cap, .int .i64 a, .int .i64 c, .int .i64 pv, cmp] (.tup (.cons (.int .i64) (.cons .bool .nil)))
      (fun x h' => (∃ ap : Bool, x = ((((partition lt d a c pv).1 : Nat) : Int), ap, ())) ∧ Rw τ b t rest h0 (partition lt d a c pv).2.2 h') h := by
  refine S.part (a0 := rowS b n cap) (a1 := a) (a2 := c) (a3 := pv) (a4 := cmp) _ ?_
  unfold G_part
  rw [partition_fst, partition_arr]
  refine r.swap hn rfl rfl (show a < n by omega) (show pv < n by omega) fun h1 r1 => ?_
  have hn1 : (swp d a pv).size = n := by rw [size_swp']; exact hn
  have hM1 := M_swp hM hn (show a < n by omega) (show pv < n by omega)
  generalize swp d a pv = d0 at *
  clear r hn hM
  have e1 : IntKind.wrap .i64 ((c : Int) - 1) = ((c - 1 : Nat) : Int) := by rw [w64 (by omega) (by omega)]; omega
  have e2 : IntKind.wrap .i64 ((a : Int) + 1) = ((a + 1 : Nat) : Int) := by rw [w64 (by omega) (by omega)]; omega
  rw [e1, e2]
  -- the end: what j is, and the pivot's swap
  have fin : ∀ (ap : Bool) (j2 : Nat) (d1 : Array τ.T) h', j2 < n → d1.size = n → Rw τ b t rest h0 d1 h' → (j2, d1) = partLoop lt a (a + 1) (c - 1) d0 →
      (sx (some ⟨b, 0, none⟩) n (a : Int) 1 fun p => ldT τ p fun x => sx (some ⟨b, 0, none⟩) n (j2 : Int) 1 fun q => ldT τ q fun y => sx (some ⟨b, 0, none⟩) n (j2 : Int) 1 fun u => st1 u (τ.enc x) <| sx (some ⟨b, 0, none⟩) n (a : Int) 1 fun v => st1 v (τ.enc y) <|
        fun h' => (∃ ap' : Bool, (((j2 : Int), ap, ()) : Int × Bool × Unit) = ((((partLoop lt a (a + 1) (c - 1) d0).1 : Nat) : Int), ap', ())) ∧ Rw τ b t rest h0 (swp (partLoop lt a (a + 1) (c - 1) d0).2 (partLoop lt a (a + 1) (c - 1) d0).1 a) h') h' := by
    intro ap j2 d1 h' hj2 hn2 r2 hE
    refine r2.swap hn2 rfl rfl hj2 (show a < n by omega) fun h3 r3 => ?_
    rw [← hE]; exact ⟨⟨ap, rfl⟩, r3⟩
  have e0 := partLoop_eq lt a (a + 1) (c - 1) d0
  obtain ⟨u1, u2, _, u4⟩ := scanUp_spec (fun x => lt x d0[a]!) d0 (c - 1) _ (a + 1) rfl
  generalize hi2 : scanUp (fun x => lt x d0[a]!) d0 (c - 1) (a + 1) = i2 at *
  obtain ⟨v1, v2, _, v4⟩ := scanDown_spec (fun x => !lt x d0[a]!) d0 i2 (c - 1)
  generalize hj2 : scanDown (fun x => !lt x d0[a]!) d0 i2 (c - 1) = j2 at *
  have u2 := u2 (by omega)
  have hnei2 : i2 ≤ j2 → i2 < j2 := fun hle => by
    rcases Nat.lt_or_eq_of_le hle with k | k
    · exact k
    · have a1 := u4 (by omega)
      have a2 := v4 hle (by omega)
      rw [← k] at a2
      simp only [a1] at a2; cases a2
  refine jn_mid (M := fun s h' => s = ((i2 : Int), ()) ∧ Rw τ b t rest h0 d0 h') ?_ ?_
  · rintro s h3 ⟨rfl, r3⟩
    refine jn_mid (M := fun s h' => s = ((j2 : Int), ()) ∧ Rw τ b t rest h0 d0 h') ?_ ?_
    · rintro s h4 ⟨rfl, r4⟩
      by_cases hg : i2 > j2
      · rw [if_pos hg] at e0
        have e : decide ((i2 : Int) > (j2 : Int)) = true := by simp; omega
        rw [e, brB_true]
        exact fin true j2 d0 h4 (by omega) hn1 r4 e0.symm
      · rw [if_neg hg] at e0
        have hlt2 := hnei2 (by omega)
        have e : decide ((i2 : Int) > (j2 : Int)) = false := by simp; omega
        rw [e, brB_false]
        refine r4.swap hn1 rfl rfl (show i2 < n by omega) (show j2 < n by omega) fun h5 r5 => ?_
        have e1 : IntKind.wrap .i64 ((j2 : Int) - 1) = ((j2 - 1 : Nat) : Int) := by rw [w64 (by omega) (by omega)]; omega
        have e2 : IntKind.wrap .i64 ((i2 : Int) + 1) = ((i2 + 1 : Nat) : Int) := by rw [w64 (by omega) (by omega)]; omega
        rw [e1, e2]
        refine lfp_invh (I := fun m σ h' => ∃ (i j : Nat) (d' : Array τ.T), σ = ((j : Int), (i : Int), ()) ∧ a < i ∧ i ≤ j + 1 ∧ j < c ∧ d'.size = n ∧ (∀ i, i < n → M d'[i]!) ∧ Rw τ b t rest h0 d' h' ∧ partLoop lt a i j d' = partLoop lt a (a + 1) (c - 1) d0 ∧ m = j + 1 - i)
          ⟨_, i2 + 1, j2 - 1, _, rfl, by omega, by omega, by omega, by rw [size_swp']; exact hn1, M_swp hM1 hn1 (by omega) (by omega), r5, e0.symm, rfl⟩ ?_
        clear hi2 hj2 u4 v4 hnei2 u1 u2 v1 v2 hg e e1 e2 e0 hlt2
        rintro m σ h6 X ⟨i, j, d1, rfl, hai, hij, hjc, hn, hM, r, hD, em⟩ hX
        rw [partLoop_eq] at hD
        obtain ⟨u1, u2, _, u4⟩ := scanUp_spec (fun x => lt x d1[a]!) d1 j _ i rfl
        generalize hi3 : scanUp (fun x => lt x d1[a]!) d1 j i = i3 at *
        obtain ⟨v1, v2, _, v4⟩ := scanDown_spec (fun x => !lt x d1[a]!) d1 i3 j
        generalize hj3 : scanDown (fun x => !lt x d1[a]!) d1 i3 j = j3 at *
        have u2 := u2 hij
        have hnei3 : i3 ≤ j3 → i3 < j3 := fun hle => by
          rcases Nat.lt_or_eq_of_le hle with k | k
          · exact k
          · have a1 := u4 (by omega)
            have a2 := v4 hle (by omega)
            rw [← k] at a2
            simp only [a1] at a2; cases a2
        refine jn_mid (M := fun s h' => s = ((i3 : Int), ()) ∧ Rw τ b t rest h0 d1 h') ?_ ?_
        · rintro s h7 ⟨rfl, r7⟩
          refine jn_mid (M := fun s h' => s = ((j3 : Int), ()) ∧ Rw τ b t rest h0 d1 h') ?_ ?_
          · rintro s h8 ⟨rfl, r8⟩
            by_cases hg : i3 > j3
            · rw [if_pos hg] at hD
              have e : decide ((i3 : Int) > (j3 : Int)) = true := by simp; omega
              rw [e, brB_true]
              exact fin false j3 d1 h8 (by omega) hn r8 hD
            · rw [if_neg hg] at hD
              have hlt3 := hnei3 (by omega)
              have e : decide ((i3 : Int) > (j3 : Int)) = false := by simp; omega
              rw [e, brB_false]
              refine r8.swap hn rfl rfl (show i3 < n by omega) (show j3 < n by omega) fun h9 r9 => ?_
              have e1 : IntKind.wrap .i64 ((j3 : Int) - 1) = ((j3 - 1 : Nat) : Int) := by rw [w64 (by omega) (by omega)]; omega
              have e2 : IntKind.wrap .i64 ((i3 : Int) + 1) = ((i3 + 1 : Nat) : Int) := by rw [w64 (by omega) (by omega)]; omega
              rw [e1, e2]
              exact hX _ _ _ ⟨i3 + 1, j3 - 1, _, rfl, by omega, by omega, by omega, by rw [size_swp']; exact hn, M_swp hM hn (by omega) (by omega), r9, hD, rfl⟩ (by omega)
          · intro J hJ
            refine scanDown_ok (tGe_ok (t := t) (rest := rest) hc hn hM (show a < n by omega)) hn4 (show j < n by omega) (by omega) r7 fun h4 r4 => ?_
            rw [hj3]; exact hJ _ _ ⟨rfl, r4⟩
        · intro J hJ
          refine scanUp_ok (tLt_ok (t := t) (rest := rest) hc hn hM (show a < n by omega)) hn4 (show j < n by omega) r fun h4 r4 => ?_
          rw [hi3]; exact hJ _ _ ⟨rfl, r4⟩
    · intro J hJ
      refine scanDown_ok (tGe_ok (t := t) (rest := rest) hc hn1 hM1 (show a < n by omega)) hn4 (show c - 1 < n by omega) (by omega) r3 fun h4 r4 => ?_
      rw [hj2]; exact hJ _ _ ⟨rfl, r4⟩
  · intro J hJ
    refine scanUp_ok (tLt_ok (t := t) (rest := rest) hc hn1 hM1 (show a < n by omega)) hn4 (show c - 1 < n by omega) r1 fun h4 r4 => ?_
    rw [hi2]; exact hJ _ _ ⟨rfl, r4⟩

end
end Go.Sx
