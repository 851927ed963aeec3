/-
  The sort sorts: the steps of a row that is nearly sorted, and all of it; over any element of one cell.
-/
import Derived.Test.YtchedlkmgahicaaSxPr
set_option linter.unusedVariables false
namespace Go.Sx
open Go Go.Sort

section
variable {P : Program} {τ : Ty} {f : SF} {b : Nat} {t : TypeId} {rest : List Value} {h0 h : Heap} {d : Array τ.T} {n cap : Nat} {lt : τ.T → τ.T → Bool} {M : τ.T → Prop} {cmp : Value}

theorem pins_c (S : Sorts P τ f) (hn4 : n ≤ 1099511627776) (hc : CmpOk P τ b h0 lt M cmp) {a c : Nat} (hac : a < c) (hcn : c ≤ n) (r : Rw τ b t rest h0 d h) (hn : d.size = n) (hM : ∀ i, i < n → M d[i]!) :
    callT P f.pins #[.slice (some ⟨b, 0, none⟩) n cap, .int .i64 a, .int .i64 c, cmp] .bool
      (fun x h' => x = (partialInsertionSort lt d a c).2 ∧ Rw τ b t rest h0 (partialInsertionSort lt d a c).1 h') h := by
  refine S.pins (a0 := rowS b n cap) (a1 := a) (a2 := c) (a3 := cmp) _ ?_
  unfold G_pins
  have e2 : IntKind.wrap .i64 ((a : Int) + 1) = ((a + 1 : Nat) : Int) := by rw [w64 (by omega) (by omega)]; omega
  have eca : IntKind.wrap .i64 ((c : Int) - (a : Int)) = ((c - a : Nat) : Int) := by rw [w64 (by omega) (by omega)]; omega
  rw [e2, eca]
  refine lfp_invh (I := fun m σ h' => ∃ (s i : Nat) (d' : Array τ.T), σ = (((5 - s : Nat) : Int), (i : Int), false, ()) ∧ s ≤ 5 ∧ a + 1 ≤ i ∧ i ≤ c ∧ d'.size = n ∧ (∀ i, i < n → M d'[i]!) ∧ Rw τ b t rest h0 d' h' ∧ partialIns lt a c s i d' = partialInsertionSort lt d a c ∧ m = s)
    ⟨_, 5, a + 1, d, rfl, by omega, by omega, by omega, hn, hM, r, rfl, rfl⟩ ?_
  clear r hn hM
  rintro m σ h1 X ⟨s, i, d1, rfl, hs, hai, hic, hn, hM, r, hD, em⟩ hX
  cases s with
  | zero =>
    have e : decide ((((5 - 0 : Nat)) : Int) < 5) = false := by decide
    rw [e, brB_false]
    rw [partialIns] at hD
    rw [← hD]; exact ⟨rfl, r⟩
  | succ s =>
    have e : decide ((((5 - (s + 1) : Nat)) : Int) < 5) = true := by simp; omega
    rw [e, brB_true]
    rw [partialIns] at hD
    have hsc : ∀ i, i ≤ c → i ≤ scanSorted lt d1 c i ∧ scanSorted lt d1 c i ≤ c := by
      have : ∀ k i, c - i = k → i ≤ c → i ≤ scanSorted lt d1 c i ∧ scanSorted lt d1 c i ≤ c := by
        intro k
        induction k with
        | zero => intro i hk hi; rw [scanSorted, if_neg (by simp; omega)]; omega
        | succ k ih =>
          intro i hk hi
          rw [scanSorted]
          split
          · have := ih (i + 1) (by omega) (by omega); omega
          · omega
      exact fun i hi => this _ i rfl hi
    obtain ⟨hs1, hs2⟩ := hsc i hic
    generalize hi2 : scanSorted lt d1 c i = i2 at *
    simp only at hD
    refine jn_mid (M := fun s h' => s = ((i2 : Int), ()) ∧ Rw τ b t rest h0 d1 h') ?_ ?_
    · rintro σ h2 ⟨rfl, r2⟩
      simp only
      by_cases hb : i2 = c
      · have e : ((i2 : Int) == (c : Int)) = true := by simp [hb]
        rw [if_pos hb] at hD
        rw [e, brB_true, ← hD]; exact ⟨rfl, r2⟩
      · have e : ((i2 : Int) == (c : Int)) = false := by simp; omega
        rw [if_neg hb] at hD
        rw [e, brB_false]
        by_cases h50 : c - a < 50
        · have e : decide (((c - a : Nat) : Int) < 50) = true := by simp; omega
          rw [if_pos h50] at hD
          rw [e, brB_true, ← hD]; exact ⟨rfl, r2⟩
        · have e : decide (((c - a : Nat) : Int) < 50) = false := by simp; omega
          rw [if_neg h50] at hD
          rw [e, brB_false]
          have ei1 : IntKind.wrap .i64 ((i2 : Int) - 1) = ((i2 - 1 : Nat) : Int) := by rw [w64 (by omega) (by omega)]; omega
          have ei2 : IntKind.wrap .i64 ((i2 : Int) + 1) = ((i2 + 1 : Nat) : Int) := by rw [w64 (by omega) (by omega)]; omega
          have ei3 : IntKind.wrap .i64 ((i2 : Int) - (a : Int)) = ((i2 - a : Nat) : Int) := by rw [w64 (by omega) (by omega)]; omega
          have ei4 : IntKind.wrap .i64 ((c : Int) - (i2 : Int)) = ((c - i2 : Nat) : Int) := by rw [w64 (by omega) (by omega)]; omega
          rw [ei1, ei2, ei3, ei4]
          refine r2.swap hn rfl rfl (show i2 < n by omega) (show i2 - 1 < n by omega) fun h3 r3 => ?_
          have hn3 : (swp d1 i2 (i2 - 1)).size = n := by rw [size_swp']; exact hn
          have hM3 := M_swp hM hn (show i2 < n by omega) (show i2 - 1 < n by omega)
          generalize swp d1 i2 (i2 - 1) = d3 at *
          refine jn_mid (M := fun _ h' => ∃ d' : Array τ.T, d' = (if i2 - a ≥ 2 then shiftDown lt (i2 - 1) d3 else d3) ∧ d'.size = n ∧ (∀ i, i < n → M d'[i]!) ∧ Rw τ b t rest h0 d' h') ?_ ?_
          · rintro _ h4 ⟨d4, ed4, hn4', hM4, r4⟩
            rw [← ed4] at hD
            refine jn_mid (M := fun _ h' => ∃ d' : Array τ.T, d' = (if c - i2 ≥ 2 then shiftUp lt c (i2 + 1) d4 else d4) ∧ d'.size = n ∧ (∀ i, i < n → M d'[i]!) ∧ Rw τ b t rest h0 d' h') ?_ ?_
            · rintro _ h5 ⟨d5, ed5, hn5, hM5, r5⟩
              rw [← ed5] at hD
              have es : IntKind.wrap .i64 (((5 - (s + 1) : Nat) : Int) + 1) = ((5 - s : Nat) : Int) := by rw [w64 (by omega) (by omega)]; omega
              rw [es]
              exact hX _ _ _ ⟨s, i2, d5, rfl, by omega, by omega, by omega, hn5, hM5, r5, hD, rfl⟩ (by omega)
            · intro J12 hJ12
              by_cases hg : c - i2 ≥ 2
              · have e : decide (((c - i2 : Nat) : Int) ≥ 2) = true := by simp; omega
                rw [e, brB_true]
                refine jn_mid (M := fun _ h' => ∃ d' : Array τ.T, d' = shiftUp lt c (i2 + 1) d4 ∧ d'.size = n ∧ (∀ i, i < n → M d'[i]!) ∧ Rw τ b t rest h0 d' h') ?_ ?_
                · rintro _ h6 ⟨d6, ed6, k⟩
                  exact hJ12 _ _ ⟨d6, by rw [if_pos hg]; exact ed6, k⟩
                · intro J14 hJ14
                  refine lfp_invh (I := fun m σ h' => ∃ (j : Nat) (d' : Array τ.T), σ = ((j : Int), ()) ∧ 1 ≤ j ∧ d'.size = n ∧ (∀ i, i < n → M d'[i]!) ∧ Rw τ b t rest h0 d' h' ∧ shiftUp lt c j d' = shiftUp lt c (i2 + 1) d4 ∧ m = c - j)
                    ⟨_, i2 + 1, d4, rfl, by omega, hn4', hM4, r4, rfl, rfl⟩ ?_
                  rintro m σ h6 Y ⟨j, d6, rfl, hj1, hn6, hM6, r6, hE, em⟩ hY
                  rw [shiftUp] at hE
                  by_cases hjc : j < c
                  · have e : decide ((j : Int) < (c : Int)) = true := by simp; omega
                    rw [if_pos hjc] at hE
                    have ej1 : IntKind.wrap .i64 ((j : Int) - 1) = ((j - 1 : Nat) : Int) := by rw [w64 (by omega) (by omega)]; omega
                    simp only [e, brB_true, ej1]
                    refine r6.cm hn6 hc hM6 rfl rfl (by omega) (by omega) ?_
                    intro k h7 hk r7
                    rw [dec_of hk]
                    cases hl : lt d6[j]! d6[j - 1]! with
                    | true =>
                      rw [hl, if_neg (by simp)] at hE
                      simp only [Bool.not_true, brB_false]
                      refine r7.swap hn6 rfl rfl (show j < n by omega) (show j - 1 < n by omega) fun h8 r8 => ?_
                      rw [w64 (by omega) (by omega)]
                      exact hY _ _ _ ⟨j + 1, _, by simp, by omega, by rw [size_swp']; exact hn6, M_swp hM6 hn6 (by omega) (by omega), r8, hE, rfl⟩ (by omega)
                    | false =>
                      rw [hl, if_pos (by simp)] at hE
                      simp only [Bool.not_false, brB_true]
                      exact hJ14 _ _ ⟨d6, hE, hn6, hM6, r7⟩
                  · have e : decide ((j : Int) < (c : Int)) = false := by simp; omega
                    rw [if_neg hjc] at hE
                    simp only [e, brB_false]
                    exact hJ14 _ _ ⟨d6, hE, hn6, hM6, r6⟩
              · have e : decide (((c - i2 : Nat) : Int) ≥ 2) = false := by simp; omega
                rw [e, brB_false]
                exact hJ12 _ _ ⟨d4, by rw [if_neg hg], hn4', hM4, r4⟩
          · intro J10 hJ10
            by_cases hg : i2 - a ≥ 2
            · have e : decide (((i2 - a : Nat) : Int) ≥ 2) = true := by simp; omega
              rw [e, brB_true]
              refine jn_mid (M := fun _ h' => ∃ d' : Array τ.T, d' = shiftDown lt (i2 - 1) d3 ∧ d'.size = n ∧ (∀ i, i < n → M d'[i]!) ∧ Rw τ b t rest h0 d' h') ?_ ?_
              · rintro _ h6 ⟨d6, ed6, k⟩
                exact hJ10 _ _ ⟨d6, by rw [if_pos hg]; exact ed6, k⟩
              · intro J29 hJ29
                refine lfp_invh (I := fun m σ h' => ∃ (j : Nat) (d' : Array τ.T), σ = ((j : Int), ()) ∧ j < n ∧ d'.size = n ∧ (∀ i, i < n → M d'[i]!) ∧ Rw τ b t rest h0 d' h' ∧ shiftDown lt j d' = shiftDown lt (i2 - 1) d3 ∧ m = j)
                  ⟨_, i2 - 1, d3, rfl, by omega, hn3, hM3, r3, rfl, rfl⟩ ?_
                rintro m σ h6 Y ⟨j, d6, rfl, hjn, hn6, hM6, r6, hE, em⟩ hY
                cases j with
                | zero =>
                  rw [shiftDown] at hE
                  have e : decide (((0 : Nat) : Int) ≥ 1) = false := by decide
                  simp only [e, brB_false]
                  exact hJ29 _ _ ⟨d6, hE, hn6, hM6, r6⟩
                | succ j =>
                  rw [shiftDown] at hE
                  have e : decide (((j + 1 : Nat) : Int) ≥ 1) = true := by simp; omega
                  have ej1 : IntKind.wrap .i64 (((j + 1 : Nat) : Int) - 1) = (j : Int) := by rw [w64 (by omega) (by omega)]; omega
                  simp only [e, brB_true, ej1]
                  refine r6.cm hn6 hc hM6 rfl rfl hjn (by omega) ?_
                  intro k h7 hk r7
                  rw [dec_of hk]
                  cases hl : lt d6[j + 1]! d6[j]! with
                  | true =>
                    rw [hl, if_neg (by simp)] at hE
                    simp only [Bool.not_true, brB_false]
                    refine r7.swap hn6 rfl rfl hjn (show j < n by omega) fun h8 r8 => ?_
                    exact hY _ _ _ ⟨j, _, rfl, by omega, by rw [size_swp']; exact hn6, M_swp hM6 hn6 hjn (by omega), r8, hE, rfl⟩ (by omega)
                  | false =>
                    rw [hl, if_pos (by simp)] at hE
                    simp only [Bool.not_false, brB_true]
                    exact hJ29 _ _ ⟨d6, hE, hn6, hM6, r7⟩
            · have e : decide (((i2 - a : Nat) : Int) ≥ 2) = false := by simp; omega
              rw [e, brB_false]
              exact hJ10 _ _ ⟨d3, by rw [if_neg hg], hn3, hM3, r3⟩
    · intro J hJ
      refine lfp_invh (I := fun m σ h' => ∃ (j : Nat), σ = ((j : Int), ()) ∧ a + 1 ≤ j ∧ j ≤ c ∧ Rw τ b t rest h0 d1 h' ∧ scanSorted lt d1 c j = i2 ∧ m = c - j) ⟨_, i, rfl, by omega, by omega, r, hi2, rfl⟩ ?_
      clear r
      rintro m σ h2 Y ⟨j, rfl, haj, hjc, r, hE, em⟩ hY
      rw [scanSorted] at hE
      by_cases hlt : j < c
      · have e : decide ((j : Int) < (c : Int)) = true := by simp; omega
        have ej1 : IntKind.wrap .i64 ((j : Int) - 1) = ((j - 1 : Nat) : Int) := by rw [w64 (by omega) (by omega)]; omega
        simp only [e, brB_true, ej1]
        refine r.cm hn hc hM rfl rfl (by omega) (by omega) ?_
        intro k h7 hk r7
        rw [dec_of hk]
        cases hl : lt d1[j]! d1[j - 1]! with
        | true =>
          rw [if_neg (by simp [hl])] at hE
          simp only [Bool.not_true, brB_false]
          exact hJ _ _ ⟨by rw [hE], r7⟩
        | false =>
          rw [if_pos (by simp [hl, hlt])] at hE
          simp only [Bool.not_false, brB_true]
          rw [w64 (by omega) (by omega)]
          exact hY _ _ _ ⟨j + 1, by simp, by omega, by omega, r7, hE, rfl⟩ (by omega)
      · have e : decide ((j : Int) < (c : Int)) = false := by simp; omega
        rw [if_neg (by simp [hlt])] at hE
        simp only [e, brB_false]
        exact hJ _ _ ⟨by rw [hE], r⟩

def pPart (P : Program) (f : SF) (b n cap : Nat) (cmp : Value) (a c pv lim ln : Int) (J2 : Bool × Bool × Int × Int × Int × Unit → HP) : HP :=
  callT P f.part #[.slice (some ⟨b, 0, none⟩) n cap, .int .i64 a, .int .i64 c, .int .i64 pv, cmp] (.tup (.cons (.int .i64) (.cons .bool .nil))) fun r19 =>
  nz (8 : Int) <|
  jn (σ := Bool × Int × Int × Unit) (fun s21 => J2 (r19.2.1, s21.1, s21.2.1, s21.2.2.1, lim, ())) fun J20 =>
  brB (decide ((IntKind.wrap .i64 (r19.1 - a)) < (IntKind.wrap .i64 (c - r19.1))))
    (callT P f.pdq #[.slice (some ⟨b, 0, none⟩) n cap, .int .i64 a, .int .i64 r19.1, .int .i64 lim, cmp] (.tup .nil) fun r22 =>
      J20 ((decide ((IntKind.wrap .i64 (r19.1 - a)) ≥ (IntKind.wrap .i64 (Int.tdiv ln (8 : Int))))), (IntKind.wrap .i64 (r19.1 + (1 : Int))), c, ()))
    (callT P f.pdq #[.slice (some ⟨b, 0, none⟩) n cap, .int .i64 (IntKind.wrap .i64 (r19.1 + (1 : Int))), .int .i64 c, .int .i64 lim, cmp] (.tup .nil) fun r23 =>
      J20 ((decide ((IntKind.wrap .i64 (c - r19.1)) ≥ (IntKind.wrap .i64 (Int.tdiv ln (8 : Int))))), a, r19.1, ()))

def pTail (P : Program) (τ : Ty) (f : SF) (b n cap : Nat) (cmp : Value) (wp wb : Bool) (a c pv lim ln : Int) (J2 : Bool × Bool × Int × Int × Int × Unit → HP) : HP :=
  brB (decide (a > (0 : Int)))
    (sx (some ⟨b, 0, none⟩) n (IntKind.wrap .i64 (a - (1 : Int))) 1 fun p13 => ldT τ p13 fun x14 => sx (some ⟨b, 0, none⟩) n pv 1 fun p15 => ldT τ p15 fun x16 =>
      callF P cmp #[τ.enc x14, τ.enc x16] (.int .i64) fun r17 =>
      brB (!(decide (r17 < (0 : Int))))
        (callT P f.peq #[.slice (some ⟨b, 0, none⟩) n cap, .int .i64 a, .int .i64 c, .int .i64 pv, cmp] (.int .i64) fun r18 => J2 (wp, wb, r18, c, lim, ()))
        (pPart P f b n cap cmp a c pv lim ln J2))
    (pPart P f b n cap cmp a c pv lim ln J2)

theorem permIn_M {a c : Nat} {d d' : Array τ.T} (h : PermIn a c d d') (hn : d.size = n) (hcn : c ≤ n) (hM : ∀ i, i < n → M d[i]!) : ∀ i, i < n → M d'[i]! := by
  intro i hi
  exact permIn_all d d' 0 n M (by omega) (permIn_mono d d' a c 0 n (by omega) hcn (by omega) h) (fun i _ hi => hM i hi) i (by omega) hi

theorem pdq_c (S : Sorts P τ f) (hO : SWO lt) (hn4 : n ≤ 1099511627776) (hc : CmpOk P τ b h0 lt M cmp) :
    ∀ (k : Nat) {a c lim : Nat} {d : Array τ.T} {h : Heap}, c - a ≤ k → a ≤ c → c ≤ n → lim ≤ 64 → Rw τ b t rest h0 d h → d.size = n → (∀ i, i < n → M d[i]!) → Below lt a c d →
    callT P f.pdq #[.slice (some ⟨b, 0, none⟩) n cap, .int .i64 a, .int .i64 c, .int .i64 lim, cmp] (.tup .nil)
      (fun _ h' => ∃ d', PermIn a c d d' ∧ SortedIn lt a c d' ∧ Rw τ b t rest h0 d' h') h := by
  intro k
  induction k using Nat.strongRecOn with
  | _ k ih =>
  intro a c lim d h hk hac hcn hlim r hn hM hB
  refine S.pdq (a0 := rowS b n cap) (a1 := a) (a2 := c) (a3 := lim) (a4 := cmp) _ ?_
  unfold G_pdq
  refine lfp_invh (I := fun m σ h' => ∃ (wp wb : Bool) (a' c' lim' : Nat) (d' : Array τ.T), σ = (wp, wb, (a' : Int), (c' : Int), (lim' : Int), ()) ∧ a ≤ a' ∧ a' ≤ c' ∧ c' ≤ c ∧ lim' ≤ 64 ∧ d'.size = n ∧ (∀ i, i < n → M d'[i]!) ∧ Rw τ b t rest h0 d' h' ∧ Below lt a' c' d' ∧
      (∀ R, PermIn a' c' d' R → SortedIn lt a' c' R → PermIn a c d R ∧ SortedIn lt a c R) ∧ m = c' - a')
    ⟨_, true, true, a, c, lim, d, rfl, by omega, hac, by omega, hlim, hn, hM, r, hB, fun R h1 h2 => ⟨h1, h2⟩, rfl⟩ ?_
  clear r hM hB
  rintro m σ h1 X ⟨wp, wb, a', c', lim', d1, rfl, ha, hac', hc', hlim', hn1, hM1, r1, hB1, fin, em⟩ hX
  have e1 : IntKind.wrap .i64 ((c' : Int) - (a' : Int)) = ((c' - a' : Nat) : Int) := by rw [w64 (by omega) (by omega)]; omega
  refine jn_in fun J2 hJ2 => ?_
  simp only [e1]
  by_cases h12 : c' - a' ≤ 12
  · have e : decide (((c' - a' : Nat) : Int) ≤ 12) = true := by simp; omega
    rw [e, brB_true]
    refine call_of (ins_c S hn4 hc hac' (by omega) r1 hn1 hM1) ?_
    rintro _ h2 r2
    obtain ⟨p1, p2⟩ := insertionSort_holds (lt := lt) hO d1 a' c' hac' (by omega)
    obtain ⟨q1, q2⟩ := fin _ p1 p2
    exact ⟨_, q1, q2, r2⟩
  have e : decide (((c' - a' : Nat) : Int) ≤ 12) = false := by simp; omega
  rw [e, brB_false]
  by_cases hl0 : lim' = 0
  · have e : ((lim' : Int) == 0) = true := by simp; omega
    rw [e, brB_true]
    refine call_of (heap_c S hn4 hc (show a' < c' by omega) (by omega) r1 hn1 hM1) ?_
    rintro _ h2 r2
    obtain ⟨p1, p2⟩ := heapSort_holds (lt := lt) hO d1 a' c' hac' (by omega)
    obtain ⟨q1, q2⟩ := fin _ p1 p2
    exact ⟨_, q1, q2, r2⟩
  have e : ((lim' : Int) == 0) = false := by simp; omega
  rw [e, brB_false]
  -- the parting
  have part : ∀ (d3 : Array τ.T) (h3 : Heap) (pv l3 : Nat), l3 ≤ 64 → a' ≤ pv → pv < c' → PermIn a' c' d1 d3 → Rw τ b t rest h0 d3 h3 → pPart P f b n cap cmp a' c' pv l3 (c' - a' : Nat) J2 h3 := by
    intro d3 h3 pv l3 hl3 hp1 hp2 hp r3
    have hn3 : d3.size = n := by rw [hp.1]; exact hn1
    have hM3 := permIn_M hp hn1 (by omega) hM1
    have hB3 := hB1.perm (by omega) hp
    refine call_of (part_c S hn4 hc hp1 hp2 (by omega) (by omega) r3 hn3 hM3) ?_
    rintro x h4 ⟨⟨ap, rfl⟩, r4⟩
    obtain ⟨g1, g2, g3, g4, g5, g6, g7⟩ := round_part hO (partition_holds lt) hp1 hp2 (by omega) hB3 (show partition lt d3 a' c' pv = ((partition lt d3 a' c' pv).1, (partition lt d3 a' c' pv).2.1, (partition lt d3 a' c' pv).2.2) from rfl)
    have pp := (partition_holds lt hO d3 a' c' pv hp1 hp2 (by omega)).2.2.1
    have hM4 := permIn_M pp hn3 (by omega) hM3
    generalize (partition lt d3 a' c' pv).1 = mid at *
    generalize (partition lt d3 a' c' pv).2.2 = d4 at *
    have hn4' : d4.size = n := by rw [g3]; exact hn3
    rw [nz_ok (show (8 : Int) ≠ 0 by decide)]
    have w1 : IntKind.wrap .i64 ((mid : Int) - (a' : Int)) = ((mid - a' : Nat) : Int) := by rw [w64 (by omega) (by omega)]; omega
    have w2 : IntKind.wrap .i64 ((c' : Int) - (mid : Int)) = ((c' - mid : Nat) : Int) := by rw [w64 (by omega) (by omega)]; omega
    have w3 : IntKind.wrap .i64 ((mid : Int) + 1) = ((mid + 1 : Nat) : Int) := by rw [w64 (by omega) (by omega)]; omega
    simp only [w1, w2, w3]
    refine jn_mid (M := fun s h' => ∃ (wb' : Bool) (a2 c2 : Nat) (d' : Array τ.T), s = (wb', (a2 : Int), (c2 : Int), ()) ∧ a' ≤ a2 ∧ a2 ≤ c2 ∧ c2 ≤ c' ∧ c2 - a2 < c' - a' ∧ d'.size = n ∧ (∀ i, i < n → M d'[i]!) ∧ Rw τ b t rest h0 d' h' ∧ Below lt a2 c2 d' ∧
      (∀ R, PermIn a2 c2 d' R → SortedIn lt a2 c2 R → PermIn a' c' d3 R ∧ SortedIn lt a' c' R)) ?_ ?_
    · rintro s h5 ⟨wb', a2, c2, d5, rfl, k1, k2, k3, k4, k5, k6, k7, k8, k9⟩
      refine hJ2 _ _ (hX _ _ _ ⟨ap, wb', a2, c2, l3, d5, rfl, by omega, k2, by omega, hl3, k5, k6, k7, k8, fun R h1 h2 => ?_, rfl⟩ (by omega))
      obtain ⟨q1, q2⟩ := k9 R h1 h2
      exact fin R (permIn_trans _ _ _ _ _ hp q1) q2
    · intro J20 hJ20
      by_cases hlt : mid - a' < c' - mid
      · have e : decide (((mid - a' : Nat) : Int) < ((c' - mid : Nat) : Int)) = true := by simp; omega
        rw [e, brB_true]
        refine call_of (ih (mid - a') (by omega) (Nat.le_refl _) g1 (by omega) hl3 r4 hn4' hM4 g4) ?_
        rintro _ h5 ⟨L, p1, p2, r5⟩
        obtain ⟨q1, q2⟩ := g6 L p1 p2
        exact hJ20 _ _ ⟨_, mid + 1, c', L, rfl, by omega, by omega, by omega, by omega, by rw [p1.1]; exact hn4', permIn_M p1 hn4' (by omega) hM4, r5, q1, q2⟩
      · have e : decide (((mid - a' : Nat) : Int) < ((c' - mid : Nat) : Int)) = false := by simp; omega
        rw [e, brB_false]
        refine call_of (ih (c' - (mid + 1)) (by omega) (Nat.le_refl _) (by omega) (by omega) hl3 r4 hn4' hM4 g5) ?_
        rintro _ h5 ⟨L, p1, p2, r5⟩
        obtain ⟨q1, q2⟩ := g7 L p1 p2
        exact hJ20 _ _ ⟨_, a', mid, L, rfl, by omega, by omega, by omega, by omega, by rw [p1.1]; exact hn4', permIn_M p1 hn4' (by omega) hM4, r5, q1, q2⟩
  have tail : ∀ (d3 : Array τ.T) (h3 : Heap) (pv l3 : Nat), l3 ≤ 64 → a' ≤ pv → pv < c' → PermIn a' c' d1 d3 → Rw τ b t rest h0 d3 h3 → pTail P τ f b n cap cmp wp wb a' c' pv l3 (c' - a' : Nat) J2 h3 := by
    intro d3 h3 pv l3 hl3 hp1 hp2 hp r3
    have hn3 : d3.size = n := by rw [hp.1]; exact hn1
    have hM3 := permIn_M hp hn1 (by omega) hM1
    have hB3 := hB1.perm (by omega) hp
    unfold pTail
    by_cases ha0 : 0 < a'
    · have e : decide ((a' : Int) > 0) = true := by simp; omega
      have w1 : IntKind.wrap .i64 ((a' : Int) - 1) = ((a' - 1 : Nat) : Int) := by rw [w64 (by omega) (by omega)]; omega
      rw [e, brB_true, w1]
      refine r3.cm hn3 hc hM3 rfl rfl (by omega) (by omega) ?_
      intro q h4 hq r4
      rw [dec_of hq]
      cases hl : lt d3[a' - 1]! d3[pv]! with
      | true =>
        simp only [Bool.not_true, brB_false]
        exact part d3 h4 pv l3 hl3 hp1 hp2 hp r4
      | false =>
        simp only [Bool.not_false, brB_true]
        refine call_of (peq_c S hn4 hc hp1 hp2 (by omega) r4 hn3 hM3) ?_
        rintro x h5 ⟨rfl, r5⟩
        obtain ⟨g1, g2, g3, g4, g5⟩ := round_eq hO (partitionEqual_holds lt) ha0 hp1 hp2 (by omega) hB3 hl (show partitionEqual lt d3 a' c' pv = ((partitionEqual lt d3 a' c' pv).1, (partitionEqual lt d3 a' c' pv).2) from rfl)
        have hM5 : ∀ i, i < n → M (partitionEqual lt d3 a' c' pv).2[i]! := by
          have hge : ∀ i, a' ≤ i → i < c' → lt d3[i]! d3[pv]! = false := fun i hi hi' => by
            rcases hB3 with h0 | hB
            · omega
            · exact hO.ntrans _ _ _ (hB i hi hi') hl
          exact permIn_M (partitionEqual_holds lt hO d3 a' c' pv hp1 hp2 (by omega) hge).2.2.1 hn3 (by omega) hM3
        refine hJ2 _ _ (hX _ _ _ ⟨wp, wb, (partitionEqual lt d3 a' c' pv).1, c', l3, _, rfl, by omega, g2, by omega, hl3, by rw [g3]; exact hn3, hM5, r5, g4, fun R h1 h2 => ?_, rfl⟩ (by omega))
        obtain ⟨q1, q2⟩ := g5 R h1 h2
        exact fin R (permIn_trans _ _ _ _ _ hp q1) q2
    · have e : decide ((a' : Int) > 0) = false := by simp; omega
      rw [e, brB_false]
      exact part d3 h3 pv l3 hl3 hp1 hp2 hp r3
  -- the patterns, the pivot
  refine jn_mid (M := fun s h' => ∃ (l3 : Nat) (d2 : Array τ.T), s = ((l3 : Int), ()) ∧ l3 ≤ 64 ∧ PermIn a' c' d1 d2 ∧ Rw τ b t rest h0 d2 h') ?_ ?_
  · rintro s h2 ⟨l3, d2, rfl, hl3, hp2, r2⟩
    have hn2 : d2.size = n := by rw [hp2.1]; exact hn1
    have hM2 := permIn_M hp2 hn1 (by omega) hM1
    refine call_of (piv_c S hn4 hc (show a' + 8 ≤ c' by omega) (by omega) r2 hn2 hM2) ?_
    rintro x h3 ⟨⟨pv, hint, rfl, hv1, hv2⟩, r3⟩
    refine jn_mid (M := fun s h' => ∃ (pv : Nat) (hint : Int) (d3 : Array τ.T), s = (hint, (pv : Int), ()) ∧ a' ≤ pv ∧ pv < c' ∧ PermIn a' c' d1 d3 ∧ Rw τ b t rest h0 d3 h') ?_ ?_
    · rintro s h4 ⟨pv, hint, d3, rfl, hv1, hv2, hp3, r4⟩
      have hn3 : d3.size = n := by rw [hp3.1]; exact hn1
      have hM3 := permIn_M hp3 hn1 (by omega) hM1
      have hB3 := hB1.perm (by omega) hp3
      cases wb with
      | true =>
        simp only [brB_true]
        cases wp with
        | true =>
          simp only [brB_true]
          refine jn_mid (M := fun _ h' => ∃ d4 : Array τ.T, PermIn a' c' d1 d4 ∧ Rw τ b t rest h0 d4 h') ?_ ?_
          · rintro _ h5 ⟨d4, hp4, r5⟩
            exact tail d4 h5 pv l3 hl3 hv1 hv2 hp4 r5
          · intro J11 hJ11
            cases hint == 1 with
            | true =>
              simp only [brB_true]
              refine call_of (pins_c S hn4 hc (show a' < c' by omega) (by omega) r4 hn3 hM3) ?_
              rintro x h5 ⟨rfl, r5⟩
              obtain ⟨p1, p2⟩ := partialInsertionSort_holds (lt := lt) hO d3 a' c' (by omega) (by omega) hB3
              cases hx : (partialInsertionSort lt d3 a' c').2 with
              | true =>
                simp only [brB_true]
                obtain ⟨q1, q2⟩ := fin _ (permIn_trans _ _ _ _ _ hp3 p1) (p2 hx)
                exact ⟨_, q1, q2, r5⟩
              | false =>
                simp only [brB_false]
                exact hJ11 _ _ ⟨_, permIn_trans _ _ _ _ _ hp3 p1, r5⟩
            | false =>
              simp only [brB_false]
              exact hJ11 _ _ ⟨d3, hp3, r4⟩
        | false =>
          simp only [brB_false]
          refine jn_mid (M := fun _ h' => ∃ d4 : Array τ.T, PermIn a' c' d1 d4 ∧ Rw τ b t rest h0 d4 h') ?_ ?_
          · rintro _ h5 ⟨d4, hp4, r5⟩
            exact tail d4 h5 pv l3 hl3 hv1 hv2 hp4 r5
          · intro J11 hJ11
            exact hJ11 _ _ ⟨d3, hp3, r4⟩
      | false =>
        simp only [brB_false]
        refine jn_mid (M := fun _ h' => ∃ d4 : Array τ.T, PermIn a' c' d1 d4 ∧ Rw τ b t rest h0 d4 h') ?_ ?_
        · rintro _ h5 ⟨d4, hp4, r5⟩
          exact tail d4 h5 pv l3 hl3 hv1 hv2 hp4 r5
        · intro J11 hJ11
          exact hJ11 _ _ ⟨d3, hp3, r4⟩
    · intro J9 hJ9
      cases hint == 2 with
      | true =>
        simp only [brB_true]
        refine call_of (rev_c S hn4 (show a' < c' by omega) (by omega) r3 hn2) ?_
        rintro _ h4 r4
        have w1 : IntKind.wrap .i64 (IntKind.wrap .i64 ((c' : Int) - 1) - IntKind.wrap .i64 ((pv : Int) - (a' : Int))) = ((c' - 1 - (pv - a') : Nat) : Int) := by
          rw [w64 (x := (c' : Int) - 1) (by omega) (by omega), w64 (x := (pv : Int) - (a' : Int)) (by omega) (by omega), w64 (by omega) (by omega)]; omega
        rw [w1]
        exact hJ9 _ _ ⟨_, 1, _, rfl, by omega, by omega, permIn_trans _ _ _ _ _ hp2 (reverseRange_holds d2 a' c' hac' (by omega)), r4⟩
      | false =>
        simp only [brB_false]
        exact hJ9 _ _ ⟨pv, hint, d2, rfl, hv1, hv2, hp2, r3⟩
  · intro J6 hJ6
    cases wb with
    | true =>
      simp only [Bool.not_true, brB_false]
      exact hJ6 _ _ ⟨lim', d1, rfl, hlim', permIn_refl _ _ _, r1⟩
    | false =>
      simp only [Bool.not_false, brB_true]
      refine call_of (brk_c S hn4 (show a' + 12 < c' by omega) (by omega) r1 hn1) ?_
      rintro _ h2 ⟨d2, hp, r2⟩
      have w1 : IntKind.wrap .i64 ((lim' : Int) - 1) = ((lim' - 1 : Nat) : Int) := by rw [w64 (by omega) (by omega)]; omega
      rw [w1]
      exact hJ6 _ _ ⟨lim' - 1, d2, rfl, by omega, hp, r2⟩

end
end Go.Sx
