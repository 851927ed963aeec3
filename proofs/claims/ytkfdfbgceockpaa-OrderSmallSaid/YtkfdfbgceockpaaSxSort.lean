/-
  A slice of one's own is sorted.
-/
import Derived.Test.YtkfdfbgceockpaaSxPs
import Derived.Test.YtkfdfbgceockpaaOrdG
import Derived.Test.YtkfdfbgceockpaaOrdS
set_option linter.unusedVariables false
namespace Go.Sx
open Go Go.Sort

section
variable {P : Program} {τ : Ty} {f : SF} {t : TypeId} {h : Heap} {lt : τ.T → τ.T → Bool} {cmp : Value}

theorem permIn_all_perm {d d' : Array τ.T} (h : PermIn 0 d.size d d') : d'.toList.Perm d.toList := by
  have := h.2.2
  have e1 : (d'.extract 0 d.size).toList = d'.toList := by rw [← h.1]; simp
  have e2 : (d.extract 0 d.size).toList = d.toList := by simp
  rwa [e1, e2] at this

theorem sorted_pairwise {d : Array τ.T} (h : SortedIn lt 0 d.size d) : d.toList.Pairwise (fun a b => lt b a = false) := by
  rw [List.pairwise_iff_getElem]
  intro i j hi hj hij
  have := h i j (Nat.zero_le _) hij (by simpa using hj)
  simpa [show i < d.size by simpa using hi, show j < d.size by simpa using hj] using this

theorem sort_len0 (S : Sorts P τ f) {a : Option Addr} {lim : Int} {K : Unit → HP} (hK : K () h) : callT P f.pdq #[.slice a 0 0, .int .i64 0, .int .i64 ((0 : Nat) : Int), .int .i64 lim, cmp] (.tup .nil) K h := by
  refine S.pdq (a0 := ⟨a, 0, 0⟩) (a1 := 0) (a2 := ((0 : Nat) : Int)) (a3 := lim) (a4 := cmp) _ ?_
  unfold G_pdq
  intro X hX
  refine hX _ _ (jn_in fun J2 hJ2 => ?_)
  have e : decide (IntKind.wrap .i64 (((0 : Nat) : Int) - 0) ≤ 12) = true := by decide
  simp only [e, brB_true]
  refine S.ins (a0 := ⟨a, 0, 0⟩) (a1 := 0) (a2 := ((0 : Nat) : Int)) (a3 := cmp) _ ?_
  unfold G_ins
  intro Y hY
  refine hY _ _ ?_
  have e : decide (IntKind.wrap .i64 ((0 : Int) + 1) < ((0 : Nat) : Int)) = false := by decide
  simp only [e, brB_false]
  exact hK

/-- What SortFunc does with a row. -/
theorem sort_row (S : Sorts P τ f) (hO : SWO lt) {xs : List τ.T} {b : Nat} {rest : List Value} (hb : Blk h b t (xs.map τ.enc ++ rest)) (hlen : xs.length ≤ 1099511627776)
    (hc : ∀ h' x y, Ext [b] h h' → x ∈ xs → y ∈ xs → callF P cmp #[τ.enc x, τ.enc y] (.int .i64) (fun r h'' => ((r : Int) < 0 ↔ lt x y = true) ∧ Ext [] h' h'') h') (K : Unit → HP) {cap : Nat}
    (hK : ∀ (ys : List τ.T) (h' : Heap), ys.Perm xs → ys.Pairwise (fun a b => lt b a = false) → Blk h' b t (ys.map τ.enc ++ rest) → Ext [b] h h' → K () h') :
    callT P f.len #[.int .u64 (IntKind.wrap .u64 (xs.length : Int))] (.int .i64) (fun r0 => callT P f.pdq #[.slice (some ⟨b, 0, none⟩) xs.length cap, .int .i64 (0 : Int), .int .i64 (xs.length : Int), .int .i64 r0, cmp] (.tup .nil) fun _ => K ()) h := by
  rw [wrap_u64 (by omega) (by omega)]
  refine call_of (len_c S (a := xs.length) (by omega)) ?_
  rintro r0 h1 ⟨rfl, l, rfl, hl64, _⟩
  have r : Rw τ b t rest h1 xs.toArray h1 := ⟨by simpa using hb, Ext.refl' _ _⟩
  have hn : xs.toArray.size = xs.length := by simp
  have hM : ∀ i, i < xs.length → xs.toArray[i]! ∈ xs := fun i hi => by simp [hi]
  refine call_of (pdq_c (cap := cap) (M := (· ∈ xs)) S hO hlen (fun h' x y hx hy => hc h' x y hx hy) xs.length (a := 0) (c := xs.length) (by omega) (by omega) (Nat.le_refl _) hl64 r hn hM (.inl rfl)) ?_
  rintro _ h2 ⟨d', p1, p2, r2⟩
  have hsz : d'.size = xs.length := by rw [p1.1]; simp
  have q1 : d'.toList.Perm xs := by
    have := permIn_all_perm (d := xs.toArray) (d' := d') (by simpa using p1)
    simpa using this
  exact hK d'.toList h2 q1 (sorted_pairwise (lt := lt) (d := d') (by rw [hsz]; exact p2)) r2.1 r2.2

/-- What SortFunc does. -/
theorem sort_c (S : Sorts P τ f) (hO : SWO lt) {xs : List τ.T} {s : Sl} {S1 : List Nat} (p : (osl t τ.enc xs s).P S1 h) (hlen : xs.length ≤ 1099511627776)
    (hc : ∀ h' x y, Ext S1 h h' → x ∈ xs → y ∈ xs → callF P cmp #[τ.enc x, τ.enc y] (.int .i64) (fun r h'' => ((r : Int) < 0 ↔ lt x y = true) ∧ Ext [] h' h'') h') (K : Unit → HP)
    (hK : ∀ (ys : List τ.T) (h' : Heap), ys.Perm xs → ys.Pairwise (fun a b => lt b a = false) → (osl t τ.enc ys s).P S1 h' → Ext S1 h h' → K () h') :
    callT P f.len #[.int .u64 (IntKind.wrap .u64 (s.len : Int))] (.int .i64) (fun r0 => callT P f.pdq #[.slice s.a s.len s.cap, .int .i64 (0 : Int), .int .i64 (s.len : Int), .int .i64 r0, cmp] (.tup .nil) fun _ => K ()) h := by
  rcases p with ⟨b, rest, eS, es, hb⟩ | ⟨eS, ex, e1, e2⟩
  · subst es; subst eS
    exact sort_row S hO hb hlen hc K fun ys h' q1 q2 q3 q4 => hK ys h' q1 q2 (.inl ⟨b, rest, rfl, by simp [q1.length_eq], q3⟩) q4
  · subst ex; subst eS
    obtain ⟨sa, sl, sc⟩ := s
    simp only at e1 e2
    subst e1; subst e2
    have e : IntKind.wrap .u64 ((0 : Nat) : Int) = ((0 : Nat) : Int) := by decide
    rw [e]
    refine call_of (len_c S (a := 0) (by omega)) ?_
    rintro r0 h1 ⟨rfl, l, rfl, hl64, _⟩
    exact sort_len0 S (hK [] h1 (List.Perm.refl _) List.Pairwise.nil (.inr ⟨rfl, rfl, rfl, rfl⟩) (Ext.refl' _ _))

theorem Hs.sort {fr : Fr} {G As : List Asn} (S : Sorts P τ f) (hO : SWO lt) {xs : List τ.T} {s : Sl} (st : Hs fr G As h) (k : Nat) (hk : As[k]? = some (osl t τ.enc xs s)) (hlen : xs.length ≤ 1099511627776)
    (hc : ∀ h' x y, (∀ A ∈ G, At h' A) → x ∈ xs → y ∈ xs → callF P cmp #[τ.enc x, τ.enc y] (.int .i64) (fun r h'' => ((r : Int) < 0 ↔ lt x y = true) ∧ Ext [] h' h'') h') (K : Unit → HP)
    (hK : ∀ (ys : List τ.T) (h' : Heap), ys.Perm xs → ys.Pairwise (fun a b => lt b a = false) → Hs fr G (As.set k (osl t τ.enc ys s)) h' → K () h') :
    callT P f.len #[.int .u64 (IntKind.wrap .u64 (s.len : Int))] (.int .i64) (fun r0 => callT P f.pdq #[.slice s.a s.len s.cap, .int .i64 (0 : Int), .int .i64 (s.len : Int), .int .i64 r0, cmp] (.tup .nil) fun _ => K ()) h := by
  obtain ⟨S1, p, hfz, hw⟩ := st.focusG k hk
  exact sort_c S hO p hlen (fun h' x y hx => hc h' x y (hfz h' hx)) K fun ys h' p1 p2 p3 p4 => hK ys h' p1 p2 (hw _ S1 h' p4 p3 fun b hb => .inl hb)

end
end Go.Sx

/-
  slices.SortFunc over whole numbers sorts.
-/
set_option linter.unusedVariables false
namespace Go.Proofs.OrdG
open Go Go.Sx Go.Proofs Go.Sort

abbrev sf_int : SF := ⟨fn_slices_pdqsortCmpFunc_int, fn_slices_insertionSortCmpFunc_int, fn_slices_heapSortCmpFunc_int, fn_slices_siftDownCmpFunc_int, fn_slices_breakPatternsCmpFunc_int, fn_slices_choosePivotCmpFunc_int, fn_slices_reverseRangeCmpFunc_int, fn_slices_partialInsertionSortCmpFunc_int, fn_slices_partitionEqualCmpFunc_int, fn_slices_partitionCmpFunc_int, fn_slices_medianCmpFunc_int, fn_slices_medianAdjacentCmpFunc_int, fn_slices_order2CmpFunc_int, fn_slices_nextPowerOfTwo, fn_slices_xorshift_Next, fn_math_bits_Len, fn_math_bits_Len64, ty_slices_xorshift, ty_int⟩

theorem sorts_int : Sorts Try.prog (.int .i64) sf_int where
  pdq := fun K hF => S_slices_pdqsortCmpFunc_int K hF
  ins := fun K hF => S_slices_insertionSortCmpFunc_int K hF
  heap := fun K hF => S_slices_heapSortCmpFunc_int K hF
  sift := fun K hF => S_slices_siftDownCmpFunc_int K hF
  brk := fun K hF => S_slices_breakPatternsCmpFunc_int K hF
  piv := fun K hF => S_slices_choosePivotCmpFunc_int K hF
  rev := fun K hF => S_slices_reverseRangeCmpFunc_int K hF
  pins := fun K hF => S_slices_partialInsertionSortCmpFunc_int K hF
  peq := fun K hF => S_slices_partitionEqualCmpFunc_int K hF
  part := fun K hF => S_slices_partitionCmpFunc_int K hF
  med := fun K hF => S_slices_medianCmpFunc_int K hF
  meda := fun K hF => S_slices_medianAdjacentCmpFunc_int K hF
  ord2 := fun K hF => S_slices_order2CmpFunc_int K hF
  npow := fun K hF => S_slices_nextPowerOfTwo K hF
  xsh := fun K hF => S_slices_xorshift_Next K hF
  len := fun K hF => S_math_bits_Len K hF
  len64 := fun K hF => S_math_bits_Len64 K hF

theorem swo_of {lt : Int → Int → Bool} (w : Ord.WeakLt lt) : SWO lt where
  irrefl := fun x => by
    cases h : lt x x with
    | false => rfl
    | true => rw [w.asymm x x h] at h; cases h
  trans := fun x y z h k => by
    cases hl : lt x z with
    | true => rfl
    | false => rw [w.ff y z x (w.asymm y z k) hl] at h; cases h
  ntrans := fun x y z h k => w.ff z y x k h

theorem sortsToBig : Ord.SortsTo 1000000 := by
  intro h b xs rest lt cmp w hb hl hc
  refine S_slices_SortFunc_int_int (a0 := ⟨some ⟨b, 0, none⟩, xs.length, xs.length + rest.length⟩) (a1 := cmp) _ ?_
  unfold F_slices_SortFunc_int_int
  refine sort_row (τ := .int .i64) sorts_int (swo_of w) (xs := xs) (t := 3) hb (by omega) (fun h' x y hx hy hz => ?_) (fun _ h' => ∃ ys, ys.Perm xs ∧ Ord.Upto lt ys ys.length ∧ Blk h' b 3 (Ord.ints ys ++ rest) ∧ Ext [b] h h') fun ys h' p1 p2 p3 p4 => ?_
  · exact callF_of (hc h' x y hx hy hz) fun r h2 ⟨hr, e⟩ => ⟨hr, by rw [e]; exact Ext.refl' _ _⟩
  · refine ⟨ys, p1, fun p q hpq hq => ?_, p3, p4⟩
    have := List.pairwise_iff_getElem.1 p2 p q (by omega) hq hpq
    simpa [Ord.g, List.getD_eq_getElem?_getD, List.getElem?_eq_getElem (show p < ys.length by omega), List.getElem?_eq_getElem hq] using this

end Go.Proofs.OrdG

/-
  Bump: the walk.
-/
set_option linter.unusedVariables false
set_option linter.unusedSimpArgs false
set_option linter.unusedSectionVars false
namespace Go.Proofs.Ord
open Go Go.Sx Go.Proofs

/-- Activities and step are within their limits. -/
structure Lim (act : List Int) (step : Int) : Prop where
  lo : ∀ i, 0 ≤ g act i
  hi : ∀ i, g act i ≤ maxA
  s1 : 1 ≤ step
  s2 : step ≤ maxA

/-- What stands when the activities are done. -/
def Done (h0 : Heap) (o ab hb pb n v : Nat) (Pl A H0 : List Int) (stp : Int) (b0 : Nat) (h' : Heap) : Prop :=
  ∃ H' Pl', Raw h' o ab hb pb A H' Pl' stp ∧ Cons H' Pl' n ∧ Same Pl Pl' ∧ A.length = n + 1 ∧ Blk h' b0 24 [.pointer (pt o)] ∧ Ext [o, ab, hb, pb] h0 h' ∧
    (g Pl' v < 0 → Heaped A H') ∧ (∀ i, i < H'.length → g H' i = v → Hole A H' i ∧ DownOk A H' i)

theorem bump_end {h0 h : Heap} {o ab hb pb n v b0 : Nat} {Pl A H0 : List Int} {stp : Int} {K : Int → HP} (c0 : Cons H0 Pl n) (hn : n ≤ 1048576) (hbl : hb < h0.size) (h1 : 1 ≤ v) (h2 : v ≤ n)
    (d : Done h0 o ab hb pb n v Pl A H0 stp b0 h) (hK : ∀ h', Keeps h0 [o, ab, hb, pb] o n A stp (srt A H0) h' → K 0 h') :
    (ldT .ptr (⟨b0, 0, none⟩ : Addr) fun x19 =>
     nn x19 fun p20 =>
     ldT .sl (p20.add 2) fun x21 =>
     sx x21.a x21.len (v : Int) 1 fun p22 =>
     ldT (.int .i64) p22 fun x23 =>
     jn (σ := Unit) (fun s25 =>
     K (0 : Int))
     (fun J24 =>
     brB (decide (x23 ≥ (0 : Int)))
     (ldT .ptr (⟨b0, 0, none⟩ : Addr) fun x26 =>
     ldT .ptr (⟨b0, 0, none⟩ : Addr) fun x27 =>
     nn x27 fun p28 =>
     ldT .sl (p28.add 2) fun x29 =>
     sx x29.a x29.len (v : Int) 1 fun p30 =>
     ldT (.int .i64) p30 fun x31 =>
     callT Try.prog fn_order_Order_up #[(.pointer x26), (.int .i64 x31)] (.tup .nil) fun r32 =>
     J24 (()))
     (J24 (())))) h := by
  obtain ⟨H', Pl', r, c, s, hl, k0, x, dA, dB⟩ := d
  obtain ⟨ha, ch, ra, rp, rc⟩ := r.common
  have hpl := c.len
  simp only [ld_ptr (i := 0) k0 rfl, nn_some, addr_add, rc.l2, rdn rc.P (k := v) (show v < Pl'.length by omega)]
  refine jn_in fun J hJ => ?_
  have sl := c.length_le
  have hperm : srt A H' = srt A H0 := srt_congr c.nodup (c0.perm c s)
  by_cases hin : g Pl' v ≥ 0
  · have e : decide (g Pl' v ≥ 0) = true := by simpa using hin
    simp only [e, brB_true, ld_ptr (i := 0) k0 rfl, nn_some, addr_add, rc.l2, rdn rc.P (k := v) (show v < Pl'.length by omega)]
    obtain ⟨b1, b2⟩ := c.bwd v h1 h2 hin
    obtain ⟨i, ei⟩ : ∃ i : Nat, g Pl' v = i := ⟨(g Pl' v).toNat, by omega⟩
    rw [ei] at b1 b2 ⊢
    simp only [Int.toNat_natCast] at b1 b2
    obtain ⟨ra, rh, rp, rr⟩ := r.full (by omega)
    obtain ⟨hh, hd⟩ := dB i b1 b2
    refine call_of (up_c rr c hl b1 hh (by omega)) ?_
    rintro _ h2' ⟨H2, Pl2, cur, r2, cl, uo, x2⟩
    refine hJ _ _ (hK _ ⟨⟨ab, hb, pb, H2, Pl2, rfl, .inl ⟨_, _, _, r2⟩, cl.cons, cl.hole.heaped uo (cl.down hd), hl, hn, ?_, r2.Hh.lt⟩, x.trans x2 (by intro b hb; simp at hb ⊢; omega)⟩)
    rw [← hperm]; exact srt_congr c.nodup (c.perm cl.cons cl.same).symm
  · have e : decide (g Pl' v ≥ 0) = false := by simpa using hin
    simp only [e, brB_false]
    refine hJ _ _ (hK _ ⟨⟨ab, hb, pb, H', Pl', rfl, r, c, dA (by omega), hl, hn, hperm.symm, Nat.lt_of_lt_of_le hbl x.1⟩, x⟩)

/-- The places are told anew. -/
theorem places {h0 h : Heap} {o ab hb pb n b0 : Nat} {Pl A H0 ys : List Int} {stp : Int} {K : HP} {ha : Option Addr} {ch : Nat} (c0 : Cons H0 Pl n) (hp : ys.Perm H0) (hn : n ≤ 1048576) (k0 : Blk h b0 24 [.pointer (pt o)])
    (hb0 : b0 ≠ pb) (r : Raw h o ab hb pb A ys Pl stp) (x : Ext [o, ab, hb, pb] h0 h) (hs : ys ≠ [] → ha = pt hb)
    (hK : ∀ h' Pl', Raw h' o ab hb pb A ys Pl' stp → Cons ys Pl' n → Same Pl Pl' → Blk h' b0 24 [.pointer (pt o)] → Ext [o, ab, hb, pb] h0 h' → K h') :
    lfp (σ := (Int × Unit)) (fun X56 s57 =>
     brB (decide (s57.1 < (ys.length : Int)))
     (sx ha ys.length s57.1 1 fun p58 =>
     ldT (.int .i64) p58 fun x59 =>
     ldT .ptr (⟨b0, 0, none⟩ : Addr) fun x60 =>
     nn x60 fun p61 =>
     ldT .sl (p61.add 2) fun x62 =>
     sx x62.a x62.len x59 1 fun p63 =>
     st1 p63 (.int .i64 s57.1) <|
     X56 ((IntKind.wrap .i64 (s57.1 + (1 : Int))), ()))
     K)
     ((0 : Int), ()) h := by
  have hpl := c0.len
  have hlen := c0.length_le
  have hyl := hp.length_eq
  have hnd : ys.Nodup := hp.nodup_iff.2 c0.nodup
  have inj : ∀ i j, i < ys.length → j < ys.length → g ys i = g ys j → i = j := by
    intro i j hi hj e
    have e1 : ∀ k (hk : k < ys.length), g ys k = ys[k] := fun k hk => by simp only [g, List.getD_eq_getElem?_getD]; rw [List.getElem?_eq_getElem hk]; rfl
    rw [e1 i hi, e1 j hj] at e
    have pw := List.pairwise_iff_getElem.1 (List.nodup_iff_pairwise_ne.1 hnd)
    rcases Nat.lt_trichotomy i j with k | k | k
    · exact absurd e (pw i j hi hj k)
    · exact k
    · exact absurd e.symm (pw j i hj hi k)
  have rng : ∀ i, i < ys.length → 1 ≤ g ys i ∧ g ys i ≤ n ∧ 0 ≤ g Pl (g ys i).toNat := fun i hi => c0.mem.1 (hp.mem_iff.1 (g_mem hi))
  refine lfp_invh (I := fun m s h' => ∃ (i : Nat) (P2 : List Int), s = ((i : Int), ()) ∧ i ≤ ys.length ∧ Raw h' o ab hb pb A ys P2 stp ∧ P2.length = n + 1 ∧ (∀ j, j < i → g P2 (g ys j).toNat = j) ∧
      (∀ w : Nat, (∀ j, j < i → g ys j ≠ w) → g P2 w = g Pl w) ∧ Blk h' b0 24 [.pointer (pt o)] ∧ Ext [o, ab, hb, pb] h0 h' ∧ m = ys.length - i)
    ⟨_, 0, Pl, rfl, by omega, r, hpl, fun j hj => by omega, fun w _ => rfl, k0, x, rfl⟩ ?_
  rintro m s h' X ⟨i, P2, rfl, hi, r, hp2, ha1, ha2, k0, x, rfl⟩ hX
  by_cases hlt : i < ys.length
  · have e : decide ((i : Int) < (ys.length : Int)) = true := by simp; omega
    obtain ⟨ra, rh, rp, rr⟩ := r.full (by omega)
    have hy0 : ys ≠ [] := by intro e; rw [e] at hlt; simp at hlt
    obtain ⟨q1, q2, q3⟩ := rng i hlt
    obtain ⟨w, ew⟩ : ∃ w : Nat, g ys i = w := ⟨(g ys i).toNat, by omega⟩
    have ei : IntKind.wrap .i64 ((i : Int) + 1) = (i + 1 : Nat) := by rw [wrap_i64 (by omega) (by omega)]; omega
    simp only [e, brB_true, hs hy0, rdn rr.Hh (k := i) hlt, ld_ptr (i := 0) k0 rfl, nn_some, addr_add, rr.toRawC.l2, ei]
    rw [ew, wrn rr.P (k := w) (by omega)]
    refine hX _ _ _ ⟨i + 1, P2.set w i, rfl, by omega, r.setPl _ (by omega), by simp [hp2], ?_, ?_, k0.set_ne _ hb0, x.set _ _ (by simp), rfl⟩ (by omega)
    · intro j hj
      have rj := rng j (by omega)
      rw [g_set]
      by_cases e1 : j = i
      · subst e1; rw [if_pos ⟨by omega, by omega⟩]
      · have : g ys j ≠ g ys i := fun e => e1 (inj j i (by omega) hlt e)
        rw [if_neg (by omega)]; exact ha1 j (by omega)
    · intro u hu
      have := hu i (by omega)
      rw [g_set, if_neg (by omega)]
      exact ha2 u fun j hj => hu j (by omega)
  · have e : decide ((i : Int) < (ys.length : Int)) = false := by simp; omega
    simp only [e, brB_false]
    have ei : i = ys.length := by omega
    have key : ∀ w : Nat, 1 ≤ w → (0 ≤ g P2 w ↔ 0 ≤ g Pl w) := by
      intro w hw
      by_cases hm : (w : Int) ∈ ys
      · obtain ⟨j, hj, ej⟩ := mem_g.1 hm
        have a1 := ha1 j (by omega)
        have a2 := (rng j hj).2.2
        rw [ej] at a1 a2
        simp only [Int.toNat_natCast] at a1 a2
        omega
      · rw [ha2 w fun j hj e => hm (e ▸ g_mem (by omega))]
    refine hK _ P2 r ⟨hp2, fun j hj => ⟨(rng j hj).1, (rng j hj).2.1⟩, fun j hj => ha1 j (by omega), fun w w1 w2 w3 => ?_⟩ ⟨by omega, key⟩ k0 x
    have hm : (w : Int) ∈ ys := hp.mem_iff.2 (c0.mem.2 ⟨by omega, by omega, by simpa using (key w w1).1 w3⟩)
    obtain ⟨j, hj, ej⟩ := mem_g.1 hm
    have a1 := ha1 j (by omega)
    rw [ej] at a1
    simp only [Int.toNat_natCast] at a1
    rw [a1]; simp only [Int.toNat_natCast]; exact ⟨hj, ej⟩

end Go.Proofs.Ord
