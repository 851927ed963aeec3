/-
  The sort sorts: insertion sort, the heap, the partitions, the pivot, and all of it; over any element of one cell.
-/
import Derived.Test.YtchedlkmgahicaaSxPd
import Derived.Sort.AssemblyPlain
set_option linter.unusedVariables false
namespace Go.Sx
open Go Go.Sort

instance inhTy : (τ : Ty) → Inhabited τ.T
  | .int _ => ⟨(0 : Int)⟩
  | .bool => ⟨false⟩
  | .ptr => ⟨(none : Option Addr)⟩
  | .sl => ⟨(⟨none, 0, 0⟩ : Sl)⟩
  | .str => ⟨(ByteArray.empty)⟩
  | .val => ⟨(undef : Value)⟩
  | .nil => ⟨()⟩
  | .cons a b => ⟨((inhTy a).default, (inhTy b).default)⟩
  | .agg t => inhTy t
  | .tup t => inhTy t

theorem w64 {x : Int} (h0 : -4611686018427387904 ≤ x) (h1 : x ≤ 4611686018427387904) : IntKind.wrap .i64 x = x := wrap_i64 (by omega) (by omega)

section
variable {P : Program} {τ : Ty} {f : SF}

def Rw (τ : Ty) (b : Nat) (t : TypeId) (rest : List Value) (h0 : Heap) (d : Array τ.T) (h : Heap) : Prop := Blk h b t (d.toList.map τ.enc ++ rest) ∧ Ext [b] h0 h

def CmpOk (P : Program) (τ : Ty) (b : Nat) (h0 : Heap) (lt : τ.T → τ.T → Bool) (M : τ.T → Prop) (cmp : Value) : Prop :=
  ∀ h' x y, Ext [b] h0 h' → M x → M y → callF P cmp #[τ.enc x, τ.enc y] (.int .i64) (fun r h'' => ((r : Int) < 0 ↔ lt x y = true) ∧ Ext [] h' h'') h'

variable {b : Nat} {t : TypeId} {rest : List Value} {h0 h : Heap} {d : Array τ.T} {n cap : Nat} {lt : τ.T → τ.T → Bool} {M : τ.T → Prop} {cmp : Value}

abbrev rowS (b n cap : Nat) : Sl := ⟨some ⟨b, 0, none⟩, n, cap⟩

theorem getE_bang {d : Array τ.T} {i : Nat} (h : i < d.size) : d[i]? = some d[i]! := by simp [h]

theorem Rw.rd (r : Rw τ b t rest h0 d h) (hn : d.size = n) {ii : Int} {i : Nat} (ei : ii = (i : Int)) (hi : i < n) {K : τ.T → HP} (hK : K d[i]! h) :
    sx (some ⟨b, 0, none⟩) n ii 1 (fun p => ldT τ p K) h := by
  subst ei
  refine ⟨_, rfl, by omega, by omega, d[i]!, ?_, hK⟩
  rw [Int.toNat_natCast, Nat.mul_one, addr_add, cell_blk r.1, List.getElem?_append_left (by simp; omega)]
  simp [getE_bang (show i < d.size by omega)]

theorem Rw.st (r : Rw τ b t rest h0 d h) (hn : d.size = n) {ii : Int} {i : Nat} (ei : ii = (i : Int)) (hi : i < n) {x : τ.T} {K : HP} (hK : ∀ h', Rw τ b t rest h0 (d.setIfInBounds i x) h' → K h') :
    sx (some ⟨b, 0, none⟩) n ii 1 (fun p => st1 p (τ.enc x) K) h := by
  subst ei
  refine ⟨_, rfl, by omega, by omega, ?_⟩
  rw [Int.toNat_natCast, Nat.mul_one, addr_add]
  show st1 _ _ _ _
  rw [st_ok r.1 (by simp; omega)]
  refine hK _ ⟨?_, r.2.set _ _ (by simp)⟩
  have := r.1.set (0 + i) (τ.enc x)
  have e : (d.toList.map τ.enc ++ rest).set (0 + i) (τ.enc x) = (d.setIfInBounds i x).toList.map τ.enc ++ rest := by
    rw [List.set_append_left _ _ (by simp; omega)]; simp
  rw [e] at this; exact this

theorem Rw.swap (r : Rw τ b t rest h0 d h) (hn : d.size = n) {ii jj : Int} {i j : Nat} (ei : ii = (i : Int)) (ej : jj = (j : Int)) (hi : i < n) (hj : j < n) {K : HP} (hK : ∀ h', Rw τ b t rest h0 (swp d i j) h' → K h') :
    sx (some ⟨b, 0, none⟩) n jj 1 (fun p => ldT τ p fun x => sx (some ⟨b, 0, none⟩) n ii 1 fun q => ldT τ q fun y => sx (some ⟨b, 0, none⟩) n ii 1 fun u => st1 u (τ.enc x) <| sx (some ⟨b, 0, none⟩) n jj 1 fun v => st1 v (τ.enc y) K) h := by
  refine r.rd hn ej hj ?_
  refine r.rd hn ei hi ?_
  refine r.st hn ei hi fun h1 r1 => ?_
  refine r1.st (by simp [hn]) ej hj fun h2 r2 => hK h2 r2

theorem Rw.mono {d : Array τ.T} {h' : Heap} (r : Rw τ b t rest h0 d h) (x : Ext [] h h') : Rw τ b t rest h0 d h' := ⟨r.1.ext x (by simp), r.2.nil_trans x⟩

theorem Rw.cm (r : Rw τ b t rest h0 d h) (hn : d.size = n) (hc : CmpOk P τ b h0 lt M cmp) (hM : ∀ i, i < n → M d[i]!) {ii jj : Int} {i j : Nat} (ei : ii = (i : Int)) (ej : jj = (j : Int)) (hi : i < n) (hj : j < n) {K : Int → HP}
    (hK : ∀ k h', ((k : Int) < 0 ↔ lt d[i]! d[j]! = true) → Rw τ b t rest h0 d h' → K k h') :
    sx (some ⟨b, 0, none⟩) n ii 1 (fun p => ldT τ p fun x => sx (some ⟨b, 0, none⟩) n jj 1 fun q => ldT τ q fun y => callF P cmp #[τ.enc x, τ.enc y] (.int .i64) K) h := by
  refine r.rd hn ei hi ?_
  refine r.rd hn ej hj ?_
  refine callF_of (hc h _ _ r.2 (hM i hi) (hM j hj)) ?_
  rintro k h' ⟨hk, x⟩
  exact hK k h' hk (r.mono x)

theorem dec_of {k : Int} {c : Bool} (h : k < 0 ↔ c = true) : decide (k < 0) = c := by
  cases c with
  | true => simp [h.2 rfl]
  | false => simp only [decide_eq_false_iff_not]; intro hk; exact absurd (h.1 hk) (by simp)

theorem size_swp' (d : Array τ.T) (i j : Nat) : (swp d i j).size = d.size := by simp [swp]

theorem M_swp {d : Array τ.T} {i j : Nat} (hM : ∀ k, k < n → M d[k]!) (hn : d.size = n) (hi : i < n) (hj : j < n) : ∀ k, k < n → M (swp d i j)[k]! := by
  intro k hk
  have := swp_permIn d 0 n i j (Nat.zero_le _) hi (Nat.zero_le _) hj (by omega)
  exact permIn_all d _ 0 n M (by omega) this (fun k _ hk => hM k hk) k (Nat.zero_le _) hk

theorem ins_c (S : Sorts P τ f) (hn4 : n ≤ 1099511627776) (hc : CmpOk P τ b h0 lt M cmp) {a c : Nat} (hac : a ≤ c) (hcn : c ≤ n) (r : Rw τ b t rest h0 d h) (hn : d.size = n) (hM : ∀ i, i < n → M d[i]!) :
    callT P f.ins #[.slice (some ⟨b, 0, none⟩) n cap, .int .i64 a, .int .i64 c, cmp] (.tup .nil) (fun _ h' => Rw τ b t rest h0 (insertionSort lt d a c) h') h := by
  refine S.ins (a0 := rowS b n cap) (a1 := a) (a2 := c) (a3 := cmp) _ ?_
  unfold G_ins
  rw [w64 (by omega) (by omega)]
  refine lfp_invh (I := fun m σ h' => ∃ (i : Nat) (d' : Array τ.T), σ = ((i : Int), ()) ∧ a < i ∧ d'.size = n ∧ (∀ i, i < n → M d'[i]!) ∧ Rw τ b t rest h0 d' h' ∧ insOuter lt a c i d' = insertionSort lt d a c ∧ m = c - i)
    ⟨_, a + 1, d, by simp, by omega, hn, hM, r, rfl, rfl⟩ ?_
  clear r hn hM
  rintro m σ h1 X ⟨i, d1, rfl, hai, hn, hM, r, hD, rfl⟩ hX
  by_cases hic : i < c
  · have e : decide ((i : Int) < (c : Int)) = true := by simp; omega
    simp only [e, brB_true]
    rw [insOuter, if_pos hic] at hD
    refine jn_mid (M := fun _ h' => ∃ d' : Array τ.T, d'.size = n ∧ (∀ i, i < n → M d'[i]!) ∧ Rw τ b t rest h0 d' h' ∧ d' = insInner lt a i d1) ?_ ?_
    · rintro s h2 ⟨d2, hn2, hM2, r2, rfl⟩
      rw [w64 (by omega) (by omega)]
      exact hX _ _ _ ⟨i + 1, _, by simp, by omega, hn2, hM2, r2, hD, rfl⟩ (by omega)
    · intro J hJ
      refine lfp_invh (I := fun m σ h' => ∃ (j : Nat) (d' : Array τ.T), σ = ((j : Int), ()) ∧ a ≤ j ∧ j < n ∧ d'.size = n ∧ (∀ i, i < n → M d'[i]!) ∧ Rw τ b t rest h0 d' h' ∧ insInner lt a j d' = insInner lt a i d1 ∧ m = j)
        ⟨_, i, d1, rfl, by omega, by omega, hn, hM, r, rfl, rfl⟩ ?_
      clear r hn hM
      rintro m σ h2 Y ⟨j, d2, rfl, haj, hjn, hn, hM, r, hE, em⟩ hY
      by_cases hja : j > a
      · have e : decide ((j : Int) > (a : Int)) = true := by simp; omega
        simp only [e, brB_true]
        obtain ⟨k, rfl⟩ : ∃ k, j = k + 1 := ⟨j - 1, by omega⟩
        have ek : IntKind.wrap .i64 (((k + 1 : Nat) : Int) - 1) = (k : Int) := by rw [w64 (by omega) (by omega)]; omega
        rw [ek]
        refine r.cm hn hc hM rfl rfl hjn (by omega) ?_
        intro q h3 hq r3
        rw [dec_of hq]
        rw [insInner] at hE
        cases hl : lt d2[k + 1]! d2[k]! with
        | true =>
          simp only [brB_true]
          have e2 : (decide (k + 1 > a) && lt d2[k + 1]! d2[k]!) = true := by simp [hl]; omega
          rw [if_pos e2] at hE
          refine r3.swap hn rfl rfl hjn (by omega) fun h4 r4 => ?_
          exact hY _ _ _ ⟨k, _, rfl, by omega, by omega, by rw [size_swp']; exact hn, M_swp hM hn hjn (by omega), r4, hE, rfl⟩ (by omega)
        | false =>
          simp only [brB_false]
          have e2 : (decide (k + 1 > a) && lt d2[k + 1]! d2[k]!) = false := by simp [hl]
          rw [e2, if_neg (by simp)] at hE
          exact hJ _ _ ⟨d2, hn, hM, r3, hE⟩
      · have e : decide ((j : Int) > (a : Int)) = false := by simp; omega
        simp only [e, brB_false]
        have : insInner lt a j d2 = d2 := by
          cases j with
          | zero => rfl
          | succ k => rw [insInner, if_neg (by simp; omega)]
        rw [this] at hE
        exact hJ _ _ ⟨d2, hn, hM, r, hE⟩
  · have e : decide ((i : Int) < (c : Int)) = false := by simp; omega
    simp only [e, brB_false]
    rw [insOuter, if_neg hic] at hD
    rw [← hD]; exact r

theorem sift_c (S : Sorts P τ f) (hn4 : n ≤ 1099511627776) (hc : CmpOk P τ b h0 lt M cmp) {root hi first : Nat} (hf : first + hi ≤ n) (hrt : root ≤ n) (r : Rw τ b t rest h0 d h) (hn : d.size = n) (hM : ∀ i, i < n → M d[i]!) :
    callT P f.sift #[.slice (some ⟨b, 0, none⟩) n cap, .int .i64 root, .int .i64 hi, .int .i64 first, cmp] (.tup .nil)
      (fun _ h' => Rw τ b t rest h0 (siftDown lt hi first root d) h' ∧ (siftDown lt hi first root d).size = n ∧ ∀ i, i < n → M (siftDown lt hi first root d)[i]!) h := by
  refine S.sift (a0 := rowS b n cap) (a1 := root) (a2 := hi) (a3 := first) (a4 := cmp) _ ?_
  unfold G_sift
  refine lfp_invh (I := fun m σ h' => ∃ (r : Nat) (d' : Array τ.T), σ = ((r : Int), ()) ∧ r ≤ n ∧ d'.size = n ∧ (∀ i, i < n → M d'[i]!) ∧ Rw τ b t rest h0 d' h' ∧ siftDown lt hi first r d' = siftDown lt hi first root d ∧ m = n - r)
    ⟨_, root, d, rfl, hrt, hn, hM, r, rfl, rfl⟩ ?_
  clear r hn hM hrt
  rintro m σ h1 X ⟨r, d1, rfl, hr, hn, hM, rw1, hD, em⟩ hX
  have e1 : IntKind.wrap .i64 (IntKind.wrap .i64 ((2 : Int) * (r : Int)) + 1) = ((2 * r + 1 : Nat) : Int) := by
    rw [w64 (x := 2 * (r : Int)) (by omega) (by omega), w64 (by omega) (by omega)]; omega
  have e2 : IntKind.wrap .i64 (((2 * r + 1 : Nat) : Int) + 1) = ((2 * r + 2 : Nat) : Int) := by rw [w64 (by omega) (by omega)]; omega
  simp only [e1, e2]
  rw [siftDown] at hD
  by_cases hch : 2 * r + 1 ≥ hi
  · rw [dif_pos hch] at hD
    have e : decide (((2 * r + 1 : Nat) : Int) ≥ (hi : Int)) = true := by simp; omega
    rw [e, brB_true, ← hD]
    exact ⟨rw1, hn, hM⟩
  rw [dif_neg hch] at hD
  have e : decide (((2 * r + 1 : Nat) : Int) ≥ (hi : Int)) = false := by simp; omega
  rw [e, brB_false]
  have w1 : IntKind.wrap .i64 ((first : Int) + (r : Int)) = ((first + r : Nat) : Int) := by rw [w64 (by omega) (by omega)]; omega
  have w2 : IntKind.wrap .i64 ((first : Int) + ((2 * r + 1 : Nat) : Int)) = ((first + (2 * r + 1) : Nat) : Int) := by rw [w64 (by omega) (by omega)]; omega
  have w4 : IntKind.wrap .i64 (((first + (2 * r + 1) : Nat) : Int) + 1) = ((first + (2 * r + 1) + 1 : Nat) : Int) := by rw [w64 (by omega) (by omega)]; omega
  have tail : ∀ (c : Nat) h2, r < c → c < hi → Rw τ b t rest h0 d1 h2 → (if lt d1[first + r]! d1[first + c]! = true then siftDown lt hi first c (swp d1 (first + r) (first + c)) else d1) = siftDown lt hi first root d →
      (sx (some ⟨b, 0, none⟩) n (IntKind.wrap .i64 ((first : Int) + (r : Int))) 1 fun p => ldT τ p fun x => sx (some ⟨b, 0, none⟩) n (IntKind.wrap .i64 ((first : Int) + (c : Int))) 1 fun q => ldT τ q fun y =>
        callF P cmp #[τ.enc x, τ.enc y] (.int .i64) fun k => brB (!(decide (k < (0 : Int)))) (fun h' => Rw τ b t rest h0 (siftDown lt hi first root d) h' ∧ (siftDown lt hi first root d).size = n ∧ ∀ i, i < n → M (siftDown lt hi first root d)[i]!)
        (sx (some ⟨b, 0, none⟩) n (IntKind.wrap .i64 ((first : Int) + (c : Int))) 1 fun p => ldT τ p fun x => sx (some ⟨b, 0, none⟩) n (IntKind.wrap .i64 ((first : Int) + (r : Int))) 1 fun q => ldT τ q fun y =>
          sx (some ⟨b, 0, none⟩) n (IntKind.wrap .i64 ((first : Int) + (r : Int))) 1 fun u => st1 u (τ.enc x) <| sx (some ⟨b, 0, none⟩) n (IntKind.wrap .i64 ((first : Int) + (c : Int))) 1 fun v => st1 v (τ.enc y) <| X ((c : Int), ()))) h2 := by
    intro c h2 hrc hchi rw2 hD2
    have w3 : IntKind.wrap .i64 ((first : Int) + (c : Int)) = ((first + c : Nat) : Int) := by rw [w64 (by omega) (by omega)]; omega
    rw [w1, w3]
    refine rw2.cm hn hc hM rfl rfl (by omega) (by omega) ?_
    intro k h3 hk rw3
    rw [dec_of hk]
    cases hl : lt d1[first + r]! d1[first + c]! with
    | false =>
      rw [hl, if_neg (by simp)] at hD2
      simp only [Bool.not_false, brB_true]
      rw [← hD2]; exact ⟨rw3, hn, hM⟩
    | true =>
      rw [hl, if_pos rfl] at hD2
      simp only [Bool.not_true, brB_false]
      refine rw3.swap hn rfl rfl (by omega) (by omega) fun h4 rw4 => ?_
      exact hX _ _ _ ⟨c, _, rfl, by omega, by rw [size_swp']; exact hn, M_swp hM hn (by omega) (by omega), rw4, hD2, rfl⟩ (by omega)
  by_cases hc2 : 2 * r + 2 < hi
  · have e3 : decide (((2 * r + 2 : Nat) : Int) < (hi : Int)) = true := by simp; omega
    rw [e3, brB_true, w2, w4]
    refine rw1.cm hn hc hM rfl rfl (by omega) (by omega) ?_
    intro k h2 hk rw2
    rw [dec_of hk]
    refine jn_in fun J hJ => ?_
    have eA : first + (2 * r + 1) + 1 = first + (2 * r + 2) := by omega
    cases hl : lt d1[first + (2 * r + 1)]! d1[first + (2 * r + 1) + 1]! with
    | true =>
      have ec : (decide (2 * r + 1 + 1 < hi) && lt d1[first + (2 * r + 1)]! d1[first + (2 * r + 1) + 1]!) = true := by rw [hl]; simp; omega
      rw [if_pos ec] at hD
      simp only [brB_true]
      refine hJ _ _ (tail (2 * r + 2) h2 (by omega) hc2 rw2 ?_)
      rw [← hD]
      cases hl2 : lt d1[first + r]! d1[first + (2 * r + 2)]! with
      | true => simp [hc2]
      | false => simp
    | false =>
      have ec : (decide (2 * r + 1 + 1 < hi) && lt d1[first + (2 * r + 1)]! d1[first + (2 * r + 1) + 1]!) = false := by rw [hl]; simp
      rw [ec, if_neg (by simp)] at hD
      simp only [brB_false]
      refine hJ _ _ (tail (2 * r + 1) h2 (by omega) (by omega) rw2 ?_)
      rw [← hD]
      cases hl2 : lt d1[first + r]! d1[first + (2 * r + 1)]! with
      | true => simp
      | false => simp
  · have e3 : decide (((2 * r + 2 : Nat) : Int) < (hi : Int)) = false := by simp; omega
    rw [e3, brB_false]
    refine jn_in fun J hJ => ?_
    have ec : (decide (2 * r + 1 + 1 < hi) && lt d1[first + (2 * r + 1)]! d1[first + (2 * r + 1) + 1]!) = false := by
      have : decide (2 * r + 1 + 1 < hi) = false := by simp; omega
      rw [this]; rfl
    rw [ec, if_neg (by simp)] at hD
    refine hJ _ _ (tail (2 * r + 1) h1 (by omega) (by omega) rw1 ?_)
    rw [← hD]
    cases hl2 : lt d1[first + r]! d1[first + (2 * r + 1)]! with
    | true => simp
    | false => simp

theorem heap_c (S : Sorts P τ f) (hn4 : n ≤ 1099511627776) (hc : CmpOk P τ b h0 lt M cmp) {a c : Nat} (hac : a < c) (hcn : c ≤ n) (r : Rw τ b t rest h0 d h) (hn : d.size = n) (hM : ∀ i, i < n → M d[i]!) :
    callT P f.heap #[.slice (some ⟨b, 0, none⟩) n cap, .int .i64 a, .int .i64 c, cmp] (.tup .nil) (fun _ h' => Rw τ b t rest h0 (heapSort lt d a c) h') h := by
  refine S.heap (a0 := rowS b n cap) (a1 := a) (a2 := c) (a3 := cmp) _ ?_
  unfold G_heap
  have e1 : IntKind.wrap .i64 ((c : Int) - (a : Int)) = ((c - a : Nat) : Int) := by rw [w64 (by omega) (by omega)]; omega
  have e2 : IntKind.wrap .i64 (((c - a : Nat) : Int) - 1) = ((c - a - 1 : Nat) : Int) := by rw [w64 (by omega) (by omega)]; omega
  have e3 : IntKind.wrap .i64 (Int.tdiv ((c - a - 1 : Nat) : Int) 2) = (((c - a - 1) / 2 : Nat) : Int) := by
    rw [Int.tdiv_eq_ediv_of_nonneg (by omega), w64 (by omega) (by omega)]; omega
  simp only [nz_ok (show (2 : Int) ≠ 0 by decide), e1, e2, e3]
  refine lfp_invh (I := fun m σ h' => ∃ (k : Nat) (d' : Array τ.T), σ = ((k : Int) - 1, ()) ∧ k ≤ (c - a - 1) / 2 + 1 ∧ d'.size = n ∧ (∀ i, i < n → M d'[i]!) ∧ Rw τ b t rest h0 d' h' ∧ heapBuild lt (c - a) a k d' = heapBuild lt (c - a) a ((c - a - 1) / 2 + 1) d ∧ m = k)
    ⟨_, (c - a - 1) / 2 + 1, d, by simp, by omega, hn, hM, r, rfl, rfl⟩ ?_
  rintro m σ h1 X ⟨k, d1, rfl, hk, hn1, hM1, rw1, hD, em⟩ hX
  by_cases hk0 : 0 < k
  · have e : decide ((k : Int) - 1 ≥ 0) = true := by simp; omega
    rw [e, brB_true]
    obtain ⟨k', rfl⟩ : ∃ k', k = k' + 1 := ⟨k - 1, by omega⟩
    have ek : ((k' + 1 : Nat) : Int) - 1 = (k' : Int) := by omega
    rw [ek]
    refine call_of (sift_c S hn4 hc (root := k') (hi := c - a) (first := a) (by omega) (by omega) rw1 hn1 hM1) ?_
    rintro _ h2 ⟨rw2, hn2, hM2⟩
    rw [w64 (by omega) (by omega)]
    exact hX _ _ _ ⟨k', _, rfl, by omega, hn2, hM2, rw2, hD, rfl⟩ (by omega)
  · have e : decide ((k : Int) - 1 ≥ 0) = false := by simp; omega
    rw [e, brB_false]
    have k0 : k = 0 := by omega
    subst k0
    have hD' : d1 = heapBuild lt (c - a) a ((c - a - 1) / 2 + 1) d := hD
    have hfin : heapPop lt a (c - a) d1 = heapSort lt d a c := by rw [hD']; rfl
    refine lfp_invh (I := fun m σ h' => ∃ (k : Nat) (d' : Array τ.T), σ = ((k : Int) - 1, ()) ∧ k ≤ c - a ∧ d'.size = n ∧ (∀ i, i < n → M d'[i]!) ∧ Rw τ b t rest h0 d' h' ∧ heapPop lt a k d' = heapSort lt d a c ∧ m = k)
      ⟨_, c - a, d1, by simp; omega, by omega, hn1, hM1, rw1, hfin, rfl⟩ ?_
    clear hX rw1 hn1 hM1 hD hD' hfin
    rintro m σ h2 Y ⟨k, d2, rfl, hk, hn2, hM2, rw2, hE, em⟩ hY
    by_cases hk0 : 0 < k
    · have e : decide ((k : Int) - 1 ≥ 0) = true := by simp; omega
      rw [e, brB_true]
      obtain ⟨k', rfl⟩ : ∃ k', k = k' + 1 := ⟨k - 1, by omega⟩
      have ek : ((k' + 1 : Nat) : Int) - 1 = (k' : Int) := by omega
      rw [ek]
      have w1 : IntKind.wrap .i64 ((a : Int) + (k' : Int)) = ((a + k' : Nat) : Int) := by rw [w64 (by omega) (by omega)]; omega
      rw [w1]
      refine rw2.swap hn2 rfl rfl (by omega) (by omega) fun h3 rw3 => ?_
      refine call_of (sift_c (root := 0) (hi := k') (first := a) S hn4 hc (by omega) (by omega) rw3 (by rw [size_swp']; exact hn2) (M_swp hM2 hn2 (by omega) (by omega))) ?_
      rintro _ h4 ⟨rw4, hn4', hM4⟩
      rw [w64 (by omega) (by omega)]
      exact hY _ _ _ ⟨k', _, rfl, by omega, hn4', hM4, rw4, hE, rfl⟩ (by omega)
    · have e : decide ((k : Int) - 1 ≥ 0) = false := by simp; omega
      rw [e, brB_false]
      have k0 : k = 0 := by omega
      subst k0
      rw [← hE]; exact rw2

theorem rev_c (S : Sorts P τ f) (hn4 : n ≤ 1099511627776) {a c : Nat} (hac : a < c) (hcn : c ≤ n) (r : Rw τ b t rest h0 d h) (hn : d.size = n) :
    callT P f.rev #[.slice (some ⟨b, 0, none⟩) n cap, .int .i64 a, .int .i64 c, cmp] (.tup .nil) (fun _ h' => Rw τ b t rest h0 (reverseRange d a c) h') h := by
  refine S.rev (a0 := rowS b n cap) (a1 := a) (a2 := c) (a3 := cmp) _ ?_
  unfold G_rev
  have e1 : IntKind.wrap .i64 ((c : Int) - 1) = ((c - 1 : Nat) : Int) := by rw [w64 (by omega) (by omega)]; omega
  rw [e1]
  refine lfp_invh (I := fun m σ h' => ∃ (i j : Nat) (d' : Array τ.T), σ = ((j : Int), (i : Int), ()) ∧ a ≤ i ∧ j < c ∧ d'.size = n ∧ Rw τ b t rest h0 d' h' ∧ reverseLoop i j d' = reverseRange d a c ∧ m = j - i)
    ⟨_, a, c - 1, d, rfl, by omega, by omega, hn, r, rfl, rfl⟩ ?_
  clear r hn
  rintro m σ h1 X ⟨i, j, d1, rfl, hai, hjc, hn, rw1, hD, em⟩ hX
  rw [reverseLoop] at hD
  by_cases hij : i < j
  · rw [if_pos hij] at hD
    have e : decide ((i : Int) < (j : Int)) = true := by simp; omega
    simp only [e, brB_true]
    refine rw1.swap hn rfl rfl (by omega) (by omega) fun h2 rw2 => ?_
    have ej : IntKind.wrap .i64 ((j : Int) - 1) = ((j - 1 : Nat) : Int) := by rw [w64 (by omega) (by omega)]; omega
    have ei : IntKind.wrap .i64 ((i : Int) + 1) = ((i + 1 : Nat) : Int) := by rw [w64 (by omega) (by omega)]; omega
    rw [ej, ei]
    exact hX _ _ _ ⟨i + 1, j - 1, _, rfl, by omega, by omega, by rw [size_swp']; exact hn, rw2, hD, rfl⟩ (by omega)
  · rw [if_neg hij] at hD
    have e : decide ((i : Int) < (j : Int)) = false := by simp; omega
    simp only [e, brB_false]
    rw [← hD]; exact rw1

theorem Rw.setOff {d : Array τ.T} {bc i : Nat} {v : Value} (r : Rw τ b t rest h0 d h) (hbc : h0.size ≤ bc) (hne : b ≠ bc) : Rw τ b t rest h0 d (setC h ⟨bc, i, none⟩ v) :=
  ⟨r.1.set_ne v hne, r.2.set _ _ (.inr hbc)⟩

def Rc (τ : Ty) (b : Nat) (t : TypeId) (rest : List Value) (h0 : Heap) (bc : Nat) (ti : TypeId) (d : Array τ.T) (h : Heap) : Prop :=
  Rw τ b t rest h0 d h ∧ h0.size ≤ bc ∧ b ≠ bc ∧ ∃ c : Int, Blk h bc ti [.int .i64 c]

variable {bc : Nat} {ti : TypeId}

theorem ord2_c (S : Sorts P τ f) (hn4 : n ≤ 1099511627776) (hc : CmpOk P τ b h0 lt M cmp) {i j : Nat} (hi : i < n) (hj : j < n)
    (r : Rc τ b t rest h0 bc ti d h) (hn : d.size = n) (hM : ∀ i, i < n → M d[i]!) :
    callT P f.ord2 #[.slice (some ⟨b, 0, none⟩) n cap, .int .i64 i, .int .i64 j, .pointer (some ⟨bc, 0, none⟩), cmp] (.tup (.cons (.int .i64) (.cons (.int .i64) .nil)))
      (fun x h' => (x = ((i : Int), (j : Int), ()) ∨ x = ((j : Int), (i : Int), ())) ∧ Rc τ b t rest h0 bc ti d h') h := by
  refine S.ord2 (a0 := rowS b n cap) (a1 := i) (a2 := j) (a3 := some ⟨bc, 0, none⟩) (a4 := cmp) _ ?_
  unfold G_ord2
  obtain ⟨rw0, hbc, hne, c, kc⟩ := r
  refine rw0.rd hn rfl hj ?_
  refine rw0.rd hn rfl hi ?_
  refine callF_of (hc h _ _ rw0.2 (hM j hj) (hM i hi)) ?_
  rintro k h' ⟨hk, x⟩
  have rw1 := rw0.mono x
  have kc := kc.ext x (by simp)
  rw [dec_of hk]
  cases lt d[j]! d[i]! with
  | true =>
    simp only [brB_true, nn_some, ld_int (i := 0) kc rfl]
    rw [st_ok kc (by simp)]
    exact ⟨.inr trivial, rw1.setOff hbc hne, hbc, hne, _, kc.set 0 _⟩
  | false =>
    simp only [brB_false]
    exact ⟨.inl trivial, rw1, hbc, hne, c, kc⟩

theorem med_c (S : Sorts P τ f) (hn4 : n ≤ 1099511627776) (hc : CmpOk P τ b h0 lt M cmp) {i j k lo hi : Nat} (hi1 : lo ≤ i ∧ i < hi) (hj : lo ≤ j ∧ j < hi) (hk : lo ≤ k ∧ k < hi) (hhi : hi ≤ n)
    (r : Rc τ b t rest h0 bc ti d h) (hn : d.size = n) (hM : ∀ i, i < n → M d[i]!) :
    callT P f.med #[.slice (some ⟨b, 0, none⟩) n cap, .int .i64 i, .int .i64 j, .int .i64 k, .pointer (some ⟨bc, 0, none⟩), cmp] (.int .i64)
      (fun x h' => (∃ m : Nat, x = (m : Int) ∧ lo ≤ m ∧ m < hi) ∧ Rc τ b t rest h0 bc ti d h') h := by
  refine S.med (a0 := rowS b n cap) (a1 := i) (a2 := j) (a3 := k) (a4 := some ⟨bc, 0, none⟩) (a5 := cmp) _ ?_
  unfold G_med
  refine call_of (ord2_c S hn4 hc (show i < n by omega) (show j < n by omega) r hn hM) ?_
  rintro x h1 ⟨hx, r1⟩
  obtain ⟨p, q, rfl, hp, hq⟩ : ∃ p q : Nat, x = ((p : Int), (q : Int), ()) ∧ (lo ≤ p ∧ p < hi) ∧ (lo ≤ q ∧ q < hi) := by
    rcases hx with rfl | rfl
    · exact ⟨i, j, rfl, hi1, hj⟩
    · exact ⟨j, i, rfl, hj, hi1⟩
  refine call_of (ord2_c S hn4 hc (show q < n by omega) (show k < n by omega) r1 hn hM) ?_
  rintro y h2 ⟨hy, r2⟩
  obtain ⟨u, v, rfl, hu, hv⟩ : ∃ p q : Nat, y = ((p : Int), (q : Int), ()) ∧ (lo ≤ p ∧ p < hi) ∧ (lo ≤ q ∧ q < hi) := by
    rcases hy with rfl | rfl
    · exact ⟨q, k, rfl, hq, hk⟩
    · exact ⟨k, q, rfl, hk, hq⟩
  refine call_of (ord2_c S hn4 hc (show p < n by omega) (show u < n by omega) r2 hn hM) ?_
  rintro z h3 ⟨hz, r3⟩
  rcases hz with rfl | rfl
  · exact ⟨⟨u, rfl, hu⟩, r3⟩
  · exact ⟨⟨p, rfl, hp⟩, r3⟩

theorem meda_c (S : Sorts P τ f) (hn4 : n ≤ 1099511627776) (hc : CmpOk P τ b h0 lt M cmp) {i lo hi : Nat} (hi1 : lo + 1 ≤ i ∧ i + 1 < hi) (hhi : hi ≤ n)
    (r : Rc τ b t rest h0 bc ti d h) (hn : d.size = n) (hM : ∀ i, i < n → M d[i]!) :
    callT P f.meda #[.slice (some ⟨b, 0, none⟩) n cap, .int .i64 i, .pointer (some ⟨bc, 0, none⟩), cmp] (.int .i64)
      (fun x h' => (∃ m : Nat, x = (m : Int) ∧ lo ≤ m ∧ m < hi) ∧ Rc τ b t rest h0 bc ti d h') h := by
  refine S.meda (a0 := rowS b n cap) (a1 := i) (a2 := some ⟨bc, 0, none⟩) (a3 := cmp) _ ?_
  unfold G_meda
  have e1 : IntKind.wrap .i64 ((i : Int) - 1) = ((i - 1 : Nat) : Int) := by rw [w64 (by omega) (by omega)]; omega
  have e2 : IntKind.wrap .i64 ((i : Int) + 1) = ((i + 1 : Nat) : Int) := by rw [w64 (by omega) (by omega)]; omega
  rw [e1, e2]
  refine call_of (med_c S hn4 hc (lo := lo) (hi := hi) (i := i - 1) (j := i) (k := i + 1) (by omega) (by omega) (by omega) hhi r hn hM) ?_
  exact fun x h' hx => hx

theorem piv_c (S : Sorts P τ f) (hn4 : n ≤ 1099511627776) (hc : CmpOk P τ b h0 lt M cmp) {a c : Nat} (hac : a + 8 ≤ c) (hcn : c ≤ n) (r : Rw τ b t rest h0 d h) (hn : d.size = n) (hM : ∀ i, i < n → M d[i]!) :
    callT P f.piv #[.slice (some ⟨b, 0, none⟩) n cap, .int .i64 a, .int .i64 c, cmp] (.tup (.cons (.int .i64) (.cons (.int .i64) .nil)))
      (fun x h' => (∃ (m : Nat) (k : Int), x = ((m : Int), k, ()) ∧ a ≤ m ∧ m < c) ∧ Rw τ b t rest h0 d h') h := by
  refine S.piv (a0 := rowS b n cap) (a1 := a) (a2 := c) (a3 := cmp) _ ?_
  unfold G_piv
  rw [nw_eq]
  have hlt := r.1.lt
  have r0 : Rc τ b t rest h0 h.size f.ti d (h.push (.cells #[.int .i64 0] f.ti)) := ⟨r.mono ((Ext.refl' [] h).push _), r.2.1, by omega, 0, Blk.new h f.ti #[.int .i64 0]⟩
  generalize h.push (.cells #[.int .i64 0] f.ti) = h1 at *
  have e1 : IntKind.wrap .i64 ((c : Int) - (a : Int)) = ((c - a : Nat) : Int) := by rw [w64 (by omega) (by omega)]; omega
  have e2 : IntKind.wrap .i64 (Int.tdiv ((c - a : Nat) : Int) 4) = (((c - a) / 4 : Nat) : Int) := by
    rw [Int.tdiv_eq_ediv_of_nonneg (by omega), w64 (by omega) (by omega)]; omega
  have e3 : IntKind.wrap .i64 ((((c - a) / 4 : Nat) : Int) * 1) = (((c - a) / 4 : Nat) : Int) := by rw [w64 (by omega) (by omega)]; omega
  have e4 : IntKind.wrap .i64 ((((c - a) / 4 : Nat) : Int) * 2) = (((c - a) / 4 * 2 : Nat) : Int) := by rw [w64 (by omega) (by omega)]; omega
  have e5 : IntKind.wrap .i64 ((((c - a) / 4 : Nat) : Int) * 3) = (((c - a) / 4 * 3 : Nat) : Int) := by rw [w64 (by omega) (by omega)]; omega
  have e6 : IntKind.wrap .i64 ((a : Int) + (((c - a) / 4 : Nat) : Int)) = ((a + (c - a) / 4 : Nat) : Int) := by rw [w64 (by omega) (by omega)]; omega
  have e7 : IntKind.wrap .i64 ((a : Int) + (((c - a) / 4 * 2 : Nat) : Int)) = ((a + (c - a) / 4 * 2 : Nat) : Int) := by rw [w64 (by omega) (by omega)]; omega
  have e8 : IntKind.wrap .i64 ((a : Int) + (((c - a) / 4 * 3 : Nat) : Int)) = ((a + (c - a) / 4 * 3 : Nat) : Int) := by rw [w64 (by omega) (by omega)]; omega
  simp only [nz_ok (show (4 : Int) ≠ 0 by decide), e1, e2, e3, e4, e5, e6, e7, e8]
  have g8 : decide (((c - a : Nat) : Int) ≥ 8) = true := by simp; omega
  refine jn_mid (M := fun s h' => (∃ m : Nat, s.2.1 = (m : Int) ∧ a ≤ m ∧ m < c) ∧ Rc τ b t rest h0 h.size f.ti d h') ?_ ?_
  · rintro ⟨s1, s2, s3, ⟨⟩⟩ h' ⟨⟨m, em, hm⟩, rw1, _, _, cn, kc⟩
    simp only at em
    subst em
    simp only [ld_int (i := 0) kc rfl]
    cases cn == 0 with
    | true => simp only [brB_true]; exact ⟨⟨m, 1, rfl, hm⟩, rw1⟩
    | false =>
      simp only [brB_false]
      cases cn == 12 with
      | true => simp only [brB_true]; exact ⟨⟨m, 2, rfl, hm⟩, rw1⟩
      | false => simp only [brB_false]; exact ⟨⟨m, 0, rfl, hm⟩, rw1⟩
  · intro J hJ
    rw [g8, brB_true]
    refine jn_mid (M := fun s h' => (∃ i j k : Nat, s = ((k : Int), (j : Int), (i : Int), ()) ∧ (a ≤ i ∧ i < c) ∧ (a ≤ j ∧ j < c) ∧ (a ≤ k ∧ k < c)) ∧ Rc τ b t rest h0 h.size f.ti d h') ?_ ?_
    · rintro s h' ⟨⟨i, j, k, rfl, hi, hj, hk⟩, r1⟩
      refine call_of (med_c S hn4 hc hi hj hk hcn r1 hn hM) ?_
      rintro x h2 ⟨hx, r2⟩
      exact hJ _ _ ⟨hx, r2⟩
    · intro J4 hJ4
      by_cases h50 : 50 ≤ c - a
      · have g50 : decide (((c - a : Nat) : Int) ≥ 50) = true := by simp; omega
        rw [g50, brB_true]
        refine call_of (meda_c S hn4 hc (lo := a) (hi := c) (i := a + (c - a) / 4) (by omega) hcn r0 hn hM) ?_
        rintro x h2 ⟨⟨i, rfl, hi⟩, r1⟩
        refine call_of (meda_c S hn4 hc (lo := a) (hi := c) (i := a + (c - a) / 4 * 2) (by omega) hcn r1 hn hM) ?_
        rintro x h3 ⟨⟨j, rfl, hj⟩, r2⟩
        refine call_of (meda_c S hn4 hc (lo := a) (hi := c) (i := a + (c - a) / 4 * 3) (by omega) hcn r2 hn hM) ?_
        rintro x h4 ⟨⟨k, rfl, hk⟩, r3⟩
        exact hJ4 _ _ ⟨⟨i, j, k, rfl, hi, hj, hk⟩, r3⟩
      · have g50 : decide (((c - a : Nat) : Int) ≥ 50) = false := by simp; omega
        rw [g50, brB_false]
        exact hJ4 _ _ ⟨⟨_, _, _, rfl, by omega, by omega, by omega⟩, r0⟩

def lenTab : ByteArray := ByteArray.mk #[0, 1, 2, 2, 3, 3, 3, 3, 4, 4, 4, 4, 4, 4, 4, 4, 5, 5, 5, 5, 5, 5, 5, 5, 5, 5, 5, 5, 5, 5, 5, 5, 6, 6, 6, 6, 6, 6, 6, 6, 6, 6, 6, 6, 6, 6, 6, 6, 6, 6, 6, 6, 6, 6, 6, 6, 6, 6, 6, 6, 6, 6, 6, 6, 7, 7, 7, 7, 7, 7, 7, 7, 7, 7, 7, 7, 7, 7, 7, 7, 7, 7, 7, 7, 7, 7, 7, 7, 7, 7, 7, 7, 7, 7, 7, 7, 7, 7, 7, 7, 7, 7, 7, 7, 7, 7, 7, 7, 7, 7, 7, 7, 7, 7, 7, 7, 7, 7, 7, 7, 7, 7, 7, 7, 7, 7, 7, 7, 8, 8, 8, 8, 8, 8, 8, 8, 8, 8, 8, 8, 8, 8, 8, 8, 8, 8, 8, 8, 8, 8, 8, 8, 8, 8, 8, 8, 8, 8, 8, 8, 8, 8, 8, 8, 8, 8, 8, 8, 8, 8, 8, 8, 8, 8, 8, 8, 8, 8, 8, 8, 8, 8, 8, 8, 8, 8, 8, 8, 8, 8, 8, 8, 8, 8, 8, 8, 8, 8, 8, 8, 8, 8, 8, 8, 8, 8, 8, 8, 8, 8, 8, 8, 8, 8, 8, 8, 8, 8, 8, 8, 8, 8, 8, 8, 8, 8, 8, 8, 8, 8, 8, 8, 8, 8, 8, 8, 8, 8, 8, 8, 8, 8, 8, 8, 8, 8, 8, 8, 8, 8, 8, 8, 8, 8, 8, 8]

theorem Rw.stX (r : Rw τ b t rest h0 d h) (hn : d.size = n) {ii : Int} {i : Nat} (ei : ii = (i : Int)) (hi : i < n) {x : τ.T} {K : HP} (hK : ∀ h', Rw τ b t rest h0 (d.setIfInBounds i x) h' → Ext [b] h h' → K h') :
    sx (some ⟨b, 0, none⟩) n ii 1 (fun p => st1 p (τ.enc x) K) h := by
  subst ei
  refine ⟨_, rfl, by omega, by omega, ?_⟩
  rw [Int.toNat_natCast, Nat.mul_one, addr_add]
  show st1 _ _ _ _
  rw [st_ok r.1 (by simp; omega)]
  refine hK _ ⟨?_, r.2.set _ _ (by simp)⟩ ((Ext.refl' [b] h).set _ _ (by simp))
  have := r.1.set (0 + i) (τ.enc x)
  have e : (d.toList.map τ.enc ++ rest).set (0 + i) (τ.enc x) = (d.setIfInBounds i x).toList.map τ.enc ++ rest := by
    rw [List.set_append_left _ _ (by simp; omega)]; simp
  rw [e] at this; exact this

theorem Rw.swapX (r : Rw τ b t rest h0 d h) (hn : d.size = n) {ii jj : Int} {i j : Nat} (ei : ii = (i : Int)) (ej : jj = (j : Int)) (hi : i < n) (hj : j < n) {K : HP} (hK : ∀ h', Rw τ b t rest h0 (swp d i j) h' → Ext [b] h h' → K h') :
    sx (some ⟨b, 0, none⟩) n jj 1 (fun p => ldT τ p fun x => sx (some ⟨b, 0, none⟩) n ii 1 fun q => ldT τ q fun y => sx (some ⟨b, 0, none⟩) n ii 1 fun u => st1 u (τ.enc x) <| sx (some ⟨b, 0, none⟩) n jj 1 fun v => st1 v (τ.enc y) K) h := by
  refine r.rd hn ej hj ?_
  refine r.rd hn ei hi ?_
  refine r.stX hn ei hi fun h1 r1 x1 => ?_
  refine r1.stX (by simp [hn]) ej hj fun h2 r2 x2 => hK h2 r2 (x1.trans x2 fun y hy => .inl hy)

theorem lenTab_ok : ∀ i : Fin 256, ∃ c : Fin 9, lenTab[i.1]? = some (UInt8.ofNat c.1) ∧ i.1 < 2 ^ c.1 ∧ (0 < i.1 → 2 ^ c.1 ≤ 2 * i.1) := by decide +kernel

theorem fdivp (x k : Nat) : Int.fdiv (x : Int) (2 ^ k) = ((x / 2 ^ k : Nat) : Int) := by
  rw [Int.fdiv_eq_ediv_of_nonneg _ (by exact Int.le_of_lt (Int.pow_pos (by omega)))]
  have : ((2 : Int) ^ k) = ((2 ^ k : Nat) : Int) := by simp
  rw [this]; rfl

def LenAt (a n x : Nat) : Prop := x * 2 ^ n ≤ a ∧ a < (x + 1) * 2 ^ n ∧ (n = 0 ∨ 0 < x)

theorem LenAt.step {a n x : Nat} (h : LenAt a n x) (k : Nat) (hk : 2 ^ k ≤ x) : LenAt a (n + k) (x / 2 ^ k) := by
  obtain ⟨h1, h2, h3⟩ := h
  have p : 0 < 2 ^ k := Nat.pow_pos (by omega)
  refine ⟨?_, ?_, .inr (Nat.div_pos hk p)⟩
  · calc x / 2 ^ k * 2 ^ (n + k) = (x / 2 ^ k * 2 ^ k) * 2 ^ n := by rw [Nat.pow_add]; ac_rfl
      _ ≤ x * 2 ^ n := Nat.mul_le_mul_right _ (Nat.div_mul_le_self x _)
      _ ≤ a := h1
  · calc a < (x + 1) * 2 ^ n := h2
      _ ≤ ((x / 2 ^ k + 1) * 2 ^ k) * 2 ^ n := Nat.mul_le_mul_right _ (by have := Nat.lt_mul_div_succ x p; rw [Nat.mul_comm] at this; omega)
      _ = (x / 2 ^ k + 1) * 2 ^ (n + k) := by rw [Nat.pow_add]; ac_rfl

theorem LenAt.fin {a n x c : Nat} (h : LenAt a n x) (h1 : x < 2 ^ c) (h2 : 0 < x → 2 ^ c ≤ 2 * x) : a < 2 ^ (n + c) ∧ (0 < a → 2 ^ (n + c) ≤ 2 * a) := by
  obtain ⟨k1, k2, k3⟩ := h
  constructor
  · calc a < (x + 1) * 2 ^ n := k2
      _ ≤ 2 ^ c * 2 ^ n := Nat.mul_le_mul_right _ h1
      _ = 2 ^ (n + c) := by rw [Nat.pow_add]; ac_rfl
  · intro h0
    have hx : 0 < x := by
      rcases k3 with k3 | k3
      · subst k3; simp at k1 k2; omega
      · exact k3
    calc 2 ^ (n + c) = 2 ^ c * 2 ^ n := by rw [Nat.pow_add]; ac_rfl
      _ ≤ 2 * x * 2 ^ n := Nat.mul_le_mul_right _ (h2 hx)
      _ = 2 * (x * 2 ^ n) := by ac_rfl
      _ ≤ 2 * a := Nat.mul_le_mul_left _ k1

theorem len64_c (S : Sorts P τ f) {a : Nat} (ha : a < 2 ^ 64) :
    callT P f.len64 #[.int .u64 a] (.int .i64) (fun x h' => h' = h ∧ ∃ r : Nat, x = (r : Int) ∧ r ≤ 64 ∧ a < 2 ^ r ∧ (0 < a → 2 ^ r ≤ 2 * a)) h := by
  refine S.len64 (a0 := (a : Int)) _ ?_
  unfold G_len64
  have m8 : (min (8 : Int).toNat 64) = 8 := rfl
  have m16 : (min (16 : Int).toNat 64) = 16 := rfl
  have m32 : (min (32 : Int).toNat 64) = 32 := rfl
  refine jn_mid (M := fun s h' => h' = h ∧ ∃ n x : Nat, s = ((n : Int), (x : Int), ()) ∧ LenAt a n x ∧ x < 2 ^ 32 ∧ n ≤ 32) ?_ ?_
  · rintro s h' ⟨rfl, n, x, rfl, hL, hx, hn⟩
    refine jn_mid (M := fun s h2 => h2 = h' ∧ ∃ n x : Nat, s = ((n : Int), (x : Int), ()) ∧ LenAt a n x ∧ x < 2 ^ 16 ∧ n ≤ 48) ?_ ?_
    · rintro s h2 ⟨rfl, n, x, rfl, hL, hx, hn⟩
      refine jn_mid (M := fun s h3 => h3 = h2 ∧ ∃ n x : Nat, s = ((n : Int), (x : Int), ()) ∧ LenAt a n x ∧ x < 2 ^ 8 ∧ n ≤ 56) ?_ ?_
      · rintro s h3 ⟨rfl, n, x, rfl, hL, hx, hn⟩
        have e : IntKind.wrap .u8 (x : Int) = (x : Int) := by
          have e : IntKind.wrap .u8 (x : Int) = (x : Int) % 256 := by simp [IntKind.wrap, IntKind.bits, IntKind.signed]
          rw [e]; omega
        obtain ⟨c, hc, c1, c2⟩ := lenTab_ok ⟨x, by omega⟩
        show six lenTab (IntKind.wrap .u8 (x : Int)) _ _
        rw [e]
        refine ⟨UInt8.ofNat c.1, by omega, by simpa using hc, ?_⟩
        have ec : (UInt8.ofNat c.1).toNat = c.1 := by
          have := c.2
          simp; omega
        rw [ec]
        obtain ⟨f1, f2⟩ := hL.fin c1 c2
        have hc9 := c.2
        refine ⟨rfl, n + c.1, ?_, by omega, f1, f2⟩
        rw [w64 (x := (c.1 : Int)) (by omega) (by omega), w64 (by omega) (by omega)]
        exact (by omega : ((n : Int) + (c.1 : Int)) = ((n + c.1 : Nat) : Int))
      · intro J hJ
        by_cases hg : 256 ≤ x
        · have e : decide ((x : Int) ≥ 256) = true := by simp; omega
          simp only [e, brB_true, ge0_ok (show (0 : Int) ≤ 8 by decide), m8, fdivp]
          rw [w64 (by omega) (by omega)]
          refine hJ _ _ ⟨rfl, n + 8, x / 2 ^ 8, by simp, hL.step 8 (by omega), by omega, by omega⟩
        · have e : decide ((x : Int) ≥ 256) = false := by simp; omega
          simp only [e, brB_false]
          exact hJ _ _ ⟨rfl, n, x, rfl, hL, by omega, by omega⟩
    · intro J hJ
      by_cases hg : 65536 ≤ x
      · have e : decide ((x : Int) ≥ 65536) = true := by simp; omega
        simp only [e, brB_true, ge0_ok (show (0 : Int) ≤ 16 by decide), m16, fdivp]
        rw [w64 (by omega) (by omega)]
        refine hJ _ _ ⟨rfl, n + 16, x / 2 ^ 16, by simp, hL.step 16 (by omega), by omega, by omega⟩
      · have e : decide ((x : Int) ≥ 65536) = false := by simp; omega
        simp only [e, brB_false]
        exact hJ _ _ ⟨rfl, n, x, rfl, hL, by omega, by omega⟩
  · intro J hJ
    have hL : LenAt a 0 a := ⟨by simp, by simp, .inl rfl⟩
    by_cases hg : 4294967296 ≤ a
    · have e : decide ((a : Int) ≥ 4294967296) = true := by simp; omega
      simp only [e, brB_true, ge0_ok (show (0 : Int) ≤ 32 by decide), m32, fdivp]
      refine hJ _ _ ⟨rfl, 32, a / 2 ^ 32, by simp, by simpa using hL.step 32 (by omega), by omega, by omega⟩
    · have e : decide ((a : Int) ≥ 4294967296) = false := by simp; omega
      simp only [e, brB_false]
      exact hJ _ _ ⟨rfl, 0, a, by simp, hL, by omega, by omega⟩

theorem len_c (S : Sorts P τ f) {a : Nat} (ha : a < 2 ^ 64) :
    callT P f.len #[.int .u64 a] (.int .i64) (fun x h' => h' = h ∧ ∃ r : Nat, x = (r : Int) ∧ r ≤ 64 ∧ a < 2 ^ r ∧ (0 < a → 2 ^ r ≤ 2 * a)) h := by
  refine S.len (a0 := (a : Int)) _ ?_
  unfold G_len
  exact call_of (len64_c S ha) fun x h' hx => hx

theorem wrap_u64 {x : Int} (h0 : 0 ≤ x) (h1 : x < 18446744073709551616) : IntKind.wrap .u64 x = x := by
  have e : IntKind.wrap .u64 x = x % 18446744073709551616 := by simp [IntKind.wrap, IntKind.bits, IntKind.signed]
  rw [e]; omega

theorem npow_c (S : Sorts P τ f) {a : Nat} (ha : a < 2 ^ 62) (h0 : 0 < a) :
    callT P f.npow #[.int .i64 a] (.int .u64) (fun x h' => h' = h ∧ ∃ m : Nat, x = (m : Int) ∧ a < m ∧ m ≤ 2 * a) h := by
  refine S.npow (a0 := (a : Int)) _ ?_
  unfold G_npow
  rw [wrap_u64 (by omega) (by omega)]
  refine call_of (len_c S (a := a) (by omega)) ?_
  rintro x h' ⟨rfl, r, rfl, hr, h1, h2⟩
  have hm := h2 h0
  have hr64 : r < 64 := by
    rcases Nat.lt_or_ge r 64 with k | k
    · exact k
    · have : 2 ^ 64 ≤ 2 ^ r := Nat.pow_le_pow_right (by omega) k
      omega
  refine ⟨by omega, ?_⟩
  have e : (min ((r : Int)).toNat 64) = r := by simp; omega
  rw [e]
  have e2 : (1 : Int) * 2 ^ r = ((2 ^ r : Nat) : Int) := by simp
  rw [e2, wrap_u64 (by omega) (by omega)]
  exact ⟨rfl, 2 ^ r, rfl, h1, hm⟩

theorem xsh_c (S : Sorts P τ f) {bx : Nat} {v : Int} (r : Rw τ b t rest h0 d h) (hbc : h0.size ≤ bx) (hne : b ≠ bx) (kx : Blk h bx f.tx [.int .u64 v]) :
    callT P f.xsh #[.pointer (some ⟨bx, 0, none⟩)] (.int .u64) (fun x h' => Rw τ b t rest h0 d h' ∧ Blk h' bx f.tx [.int .u64 x]) h := by
  refine S.xsh (a0 := some ⟨bx, 0, none⟩) _ ?_
  unfold G_xsh
  simp only [nn_some, ld_int (i := 0) kx rfl, ge0_ok (show (0 : Int) ≤ 13 by decide)]
  rw [st_ok kx (by simp)]
  have k1 := kx.set 0 (.int .u64 (bXor .u64 v (IntKind.wrap .u64 (v * 2 ^ (min ((13 : Int)).toNat 64)))))
  have r1 := r.setOff (i := 0) (v := .int .u64 (bXor .u64 v (IntKind.wrap .u64 (v * 2 ^ (min ((13 : Int)).toNat 64))))) hbc hne
  simp only [List.set_cons_zero] at k1
  generalize bXor .u64 v (IntKind.wrap .u64 (v * 2 ^ (min ((13 : Int)).toNat 64))) = v1 at *
  generalize setC h ⟨bx, 0, none⟩ (.int .u64 v1) = h1 at *
  simp only [nn_some, ld_int (i := 0) k1 rfl, ge0_ok (show (0 : Int) ≤ 7 by decide)]
  rw [st_ok k1 (by simp)]
  have k2 := k1.set 0 (.int .u64 (bXor .u64 v1 (Int.fdiv v1 (2 ^ (min ((7 : Int)).toNat 64)))))
  have r2 := r1.setOff (i := 0) (v := .int .u64 (bXor .u64 v1 (Int.fdiv v1 (2 ^ (min ((7 : Int)).toNat 64))))) hbc hne
  simp only [List.set_cons_zero] at k2
  generalize bXor .u64 v1 (Int.fdiv v1 (2 ^ (min ((7 : Int)).toNat 64))) = v2 at *
  generalize setC h1 ⟨bx, 0, none⟩ (.int .u64 v2) = h2 at *
  simp only [nn_some, ld_int (i := 0) k2 rfl, ge0_ok (show (0 : Int) ≤ 17 by decide)]
  rw [st_ok k2 (by simp)]
  have k3 := k2.set 0 (.int .u64 (bXor .u64 v2 (IntKind.wrap .u64 (v2 * 2 ^ (min ((17 : Int)).toNat 64)))))
  have r3 := r2.setOff (i := 0) (v := .int .u64 (bXor .u64 v2 (IntKind.wrap .u64 (v2 * 2 ^ (min ((17 : Int)).toNat 64))))) hbc hne
  simp only [List.set_cons_zero] at k3
  generalize bXor .u64 v2 (IntKind.wrap .u64 (v2 * 2 ^ (min ((17 : Int)).toNat 64))) = v3 at *
  generalize setC h2 ⟨bx, 0, none⟩ (.int .u64 v3) = h3 at *
  simp only [nn_some, ld_int (i := 0) k3 rfl]
  exact ⟨r3, k3⟩

theorem bAnd_le {x y : Int} (h0 : 0 ≤ y) (h1 : y < 18446744073709551616) : 0 ≤ bAnd .u64 x y ∧ bAnd .u64 x y ≤ y := by
  have e : bAnd .u64 x y = ((BitVec.ofInt 64 x &&& BitVec.ofInt 64 y).toNat : Int) := by
    unfold bAnd
    have := (BitVec.ofInt 64 x &&& BitVec.ofInt 64 y).isLt
    exact wrap_u64 (by omega) (by show ((BitVec.ofInt 64 x &&& BitVec.ofInt 64 y).toNat : Int) < _; omega)
  rw [e]
  have h2 : (BitVec.ofInt 64 x &&& BitVec.ofInt 64 y).toNat ≤ (BitVec.ofInt 64 y).toNat := by
    rw [BitVec.toNat_and]; exact Nat.and_le_right
  have h3 : ((BitVec.ofInt 64 y).toNat : Int) = y := by
    rw [BitVec.toNat_ofInt]; omega
  omega

theorem brk_c (S : Sorts P τ f) (hn4 : n ≤ 1099511627776) {a c : Nat} (hac : a + 12 < c) (hcn : c ≤ n) (r : Rw τ b t rest h0 d h) (hn : d.size = n) :
    callT P f.brk #[.slice (some ⟨b, 0, none⟩) n cap, .int .i64 a, .int .i64 c, cmp] (.tup .nil) (fun _ h' => ∃ d', PermIn a c d d' ∧ Rw τ b t rest h0 d' h') h := by
  refine S.brk (a0 := rowS b n cap) (a1 := a) (a2 := c) (a3 := cmp) _ ?_
  unfold G_brk
  have e1 : IntKind.wrap .i64 ((c : Int) - (a : Int)) = ((c - a : Nat) : Int) := by rw [w64 (by omega) (by omega)]; omega
  have e2 : IntKind.wrap .i64 (Int.tdiv ((c - a : Nat) : Int) 4) = (((c - a) / 4 : Nat) : Int) := by
    rw [Int.tdiv_eq_ediv_of_nonneg (by omega), w64 (by omega) (by omega)]; omega
  have e4 : IntKind.wrap .i64 ((((c - a) / 4 : Nat) : Int) * 2) = (((c - a) / 4 * 2 : Nat) : Int) := by rw [w64 (by omega) (by omega)]; omega
  have e7 : IntKind.wrap .i64 ((a : Int) + (((c - a) / 4 * 2 : Nat) : Int)) = ((a + (c - a) / 4 * 2 : Nat) : Int) := by rw [w64 (by omega) (by omega)]; omega
  have e8 : IntKind.wrap .i64 (((a + (c - a) / 4 * 2 : Nat) : Int) + 1) = ((a + (c - a) / 4 * 2 + 1 : Nat) : Int) := by rw [w64 (by omega) (by omega)]; omega
  have e9 : IntKind.wrap .i64 (((a + (c - a) / 4 * 2 : Nat) : Int) - 1) = ((a + (c - a) / 4 * 2 - 1 : Nat) : Int) := by rw [w64 (by omega) (by omega)]; omega
  simp only [e1, e2, e4, e7, e8, e9]
  refine jn_in fun J hJ => ?_
  have g8 : decide (((c - a : Nat) : Int) ≥ 8) = true := by simp; omega
  rw [g8, brB_true, nw_eq]
  have hlt := r.1.lt
  have hx0 := r.2.1
  have r0 : Rw τ b t rest h0 d (h.push (.cells #[.int .u64 0] f.tx)) := r.mono ((Ext.refl' [] h).push _)
  have kx := Blk.new h f.tx #[.int .u64 0]
  have hne : b ≠ h.size := by omega
  generalize h.push (.cells #[.int .u64 0] f.tx) = h1 at *
  rw [st_ok kx (by simp)]
  have kx := kx.set 0 (.int .u64 (IntKind.wrap .u64 ((c - a : Nat) : Int)))
  have r0 := r0.setOff (i := 0) (v := .int .u64 (IntKind.wrap .u64 ((c - a : Nat) : Int))) hx0 hne
  generalize setC h1 ⟨h.size, 0, none⟩ (.int .u64 (IntKind.wrap .u64 ((c - a : Nat) : Int))) = h2 at *
  refine call_of (npow_c S (a := c - a) (by omega) (by omega)) ?_
  rintro x h3 ⟨rfl, m, rfl, hm1, hm2⟩
  simp only [nz_ok (show (4 : Int) ≠ 0 by decide)]
  refine lfp_invh (I := fun k σ h' => ∃ (i : Nat) (d' : Array τ.T) (v : Int), σ = ((i : Int), ()) ∧ a + (c - a) / 4 * 2 - 1 ≤ i ∧ i ≤ a + (c - a) / 4 * 2 + 2 ∧ PermIn a c d d' ∧ Rw τ b t rest h0 d' h' ∧ Blk h' h.size f.tx [.int .u64 v] ∧ k = a + (c - a) / 4 * 2 + 2 - i)
    ⟨_, a + (c - a) / 4 * 2 - 1, d, _, rfl, by omega, by omega, permIn_refl d a c, r0, kx, rfl⟩ ?_
  clear r0 kx
  rintro k σ h4 X ⟨i, d1, v, rfl, hi1, hi2, hp, rw1, kx, em⟩ hX
  have hn1 : d1.size = n := by rw [hp.1]; exact hn
  by_cases hle : i ≤ a + (c - a) / 4 * 2 + 1
  · have e : decide ((i : Int) ≤ ((a + (c - a) / 4 * 2 + 1 : Nat) : Int)) = true := by simp; omega
    rw [nz_ok (show (4 : Int) ≠ 0 by decide), e, brB_true]
    refine call_of (xsh_c S rw1 hx0 hne kx) ?_
    rintro x h5 ⟨rw2, kx2⟩
    have em1 : IntKind.wrap .u64 ((m : Int) - 1) = ((m - 1 : Nat) : Int) := by rw [wrap_u64 (by omega) (by omega)]; omega
    obtain ⟨b0, b1⟩ := bAnd_le (x := x) (y := ((m - 1 : Nat) : Int)) (by omega) (by omega)
    have eb : IntKind.wrap .i64 (bAnd .u64 x ((m - 1 : Nat) : Int)) = bAnd .u64 x ((m - 1 : Nat) : Int) := w64 (by omega) (by omega)
    rw [em1, eb]
    obtain ⟨o, eo⟩ : ∃ o : Nat, bAnd .u64 x ((m - 1 : Nat) : Int) = (o : Int) := ⟨(bAnd .u64 x ((m - 1 : Nat) : Int)).toNat, by omega⟩
    rw [eo] at b1 ⊢
    refine jn_mid (M := fun s h' => h' = h5 ∧ ∃ q : Nat, s = ((q : Int), ()) ∧ q < c - a) ?_ ?_
    · rintro s h6 ⟨rfl, q, rfl, hq⟩
      have ew : IntKind.wrap .i64 ((a : Int) + (q : Int)) = ((a + q : Nat) : Int) := by rw [w64 (by omega) (by omega)]; omega
      simp only [ew]
      refine rw2.swapX hn1 rfl rfl (show i < n by omega) (show a + q < n by omega) fun h7 rw3 x7 => ?_
      rw [w64 (by omega) (by omega)]
      have kx3 := kx2.ext x7 (by simpa using fun e => hne e.symm)
      exact hX _ _ _ ⟨i + 1, _, x, by simp, by omega, by omega, permIn_trans _ _ _ a c hp (swp_permIn d1 a c i (a + q) (by omega) (by omega) (by omega) (by omega) (by omega)), rw3, kx3, rfl⟩ (by omega)
    · intro J7 hJ7
      by_cases hg : c - a ≤ o
      · have e : decide ((o : Int) ≥ ((c - a : Nat) : Int)) = true := by simp; omega
        rw [e, brB_true, w64 (by omega) (by omega)]
        exact hJ7 _ _ ⟨rfl, o - (c - a), by congr 1; omega, by omega⟩
      · have e : decide ((o : Int) ≥ ((c - a : Nat) : Int)) = false := by simp; omega
        rw [e, brB_false]
        exact hJ7 _ _ ⟨rfl, o, rfl, by omega⟩
  · have e : decide ((i : Int) ≤ ((a + (c - a) / 4 * 2 + 1 : Nat) : Int)) = false := by simp; omega
    rw [nz_ok (show (4 : Int) ≠ 0 by decide), e, brB_false]
    exact hJ _ _ ⟨d1, hp, rw1⟩

end
end Go.Sx
