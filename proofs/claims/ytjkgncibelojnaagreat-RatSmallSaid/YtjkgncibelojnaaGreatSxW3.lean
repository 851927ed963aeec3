/-
  More of the library's functions over slices: Grow from nil, Concat, cmp.Or. Nothing here names a program.
-/
import Derived.Test.YtjkgncibelojnaaGreatSxW2
import Derived.Test.YtjkgncibelojnaaGreatClA
set_option linter.unusedVariables false
namespace Go.Sx
open Go
section
variable {P : Program} {τ : Ty} {t : TypeId} {h h' : Heap} {xs ys : List τ.T} {s s2 : Sl} {fr : Fr} {G As : List Asn} {by_ : Nat} {z : Value}
def W_grow (t : TypeId) (by_ : Nat) (z : Value) (a0 : Sl) (a1 : Int) (K : Sl → HP) : HP :=
  jn (σ := Unit) (fun s1 => jn (σ := Sl × Unit) (fun s3 => K ⟨s3.1.a, s3.1.len, s3.1.cap⟩)
    (fun J2 => brB (decide ((IntKind.wrap .i64 (a1 - (IntKind.wrap .i64 ((a0.cap : Int) - (a0.len : Int))))) > (0 : Int)))
      (slH ⟨a0.a, a0.len, a0.cap⟩ (a0.cap : Int) 1 fun s4 => apz t 1 by_ #[z] ⟨s4.a, s4.len, s4.cap⟩ (IntKind.wrap .i64 (a1 - (IntKind.wrap .i64 ((a0.cap : Int) - (a0.len : Int))))) fun s5 =>
        slH ⟨s5.a, s5.len, s5.cap⟩ (a0.len : Int) 1 fun s6 => J2 (⟨s6.a, s6.len, s6.cap⟩, ()))
      (J2 (⟨a0.a, a0.len, a0.cap⟩, ()))))
  (fun J0 => brB (decide (a1 < (0 : Int))) fF (J0 (())))
theorem w_grow_nil {n : Nat} (hn : n * by_ ≤ 140737488355328) (hby : 0 < by_) {K : Sl → HP} (hK : ∀ s' h', New h.size h' (osl t τ.enc [] s') → Ext [] h h' → K s' h') : W_grow t by_ z ⟨none, 0, 0⟩ (n : Int) K h := by
  have hn2 : n ≤ 140737488355328 := Nat.le_trans (Nat.le_mul_of_pos_right n hby) hn
  have e0 : IntKind.wrap .i64 (((⟨none, 0, 0⟩ : Sl).cap : Int) - ((⟨none, 0, 0⟩ : Sl).len : Int)) = 0 := rfl
  refine jn_in fun J0 hJ0 => ?_
  have e1 : decide ((n : Int) < 0) = false := decide_eq_false (by omega)
  rw [e1, brB_false]
  refine hJ0 _ _ ?_
  refine jn_in fun J2 hJ2 => ?_
  rw [e0, Int.sub_zero, wrap_i64 (by omega) (by omega)]
  by_cases h0 : n = 0
  · subst h0
    rw [show decide (((0 : Nat) : Int) > 0) = false from rfl, brB_false]
    exact hJ2 _ _ (hK _ _ (osl_nil _ _) (Ext.refl' _ _))
  · have e2 : decide ((n : Int) > 0) = true := by simp; omega
    rw [e2, brB_true]
    refine ⟨Int.le_refl _, Int.le_refl _, ?_⟩
    have e3 : slR ⟨none, 0, 0⟩ 0 (Int.toNat ((⟨none, 0, 0⟩ : Sl).cap : Int)) 1 = ⟨none, 0, 0⟩ := rfl
    rw [e3]
    refine ⟨by omega, ?_, hby, by decide, fun hle => ?_, fun hgt => ⟨?_, [], rfl, fun nc h1 h2 => ?_⟩⟩
    · have : ((n : Int) * (by_ : Int)) = ((n * by_ : Nat) : Int) := by simp
      rw [this]; omega
    · simp only [Int.toNat_natCast] at hle; omega
    · simpa using hn
    · simp only [Int.toNat_natCast, Nat.zero_add] at h1 ⊢
      refine ⟨Int.le_refl _, Int.natCast_nonneg _, hJ2 _ _ (hK _ _ ⟨[h.size], .inl ⟨h.size, (Builtin.zeroCells #[z] n).toList ++ (Builtin.zeroCells #[z] (nc - n)).toList, rfl, ?_, ?_⟩, by simp⟩ ((Ext.refl' [] h).push _))⟩
      · have hz : nc ≠ 0 := by omega
        have e5 : n + (nc - n) = nc := by omega
        simp [slR, hz, Builtin.zeroCells, Addr.add, e5]
      · have := Blk.new h t ((([] : List Value).toArray ++ (if n * 1 = 0 then #[] else Builtin.zeroCells #[z] n)) ++ Builtin.zeroCells #[z] (nc - n))
        have e4 : (if n * 1 = 0 then (#[] : Array Value) else Builtin.zeroCells #[z] n) = Builtin.zeroCells #[z] n := by rw [if_neg (by omega)]
        rw [e4] at this ⊢
        simpa using this
def W_concat (P : Program) (τ : Ty) (t : TypeId) (by_ : Nat) (z : Value) (fg : FuncId) (a0 : Sl) (K : Sl → HP) : HP :=
  lfp (σ := (Int × (Int × Unit))) (fun X0 s1 => brB (decide (s1.1 < (a0.len : Int)))
    (sx a0.a a0.len s1.1 1 fun p2 => ldT .sl p2 fun x3 => jn (σ := Unit) (fun s5 => X0 ((IntKind.wrap .i64 (s1.1 + (1 : Int))), (IntKind.wrap .i64 (s1.2.1 + (x3.len : Int))), ()))
      (fun J4 => brB (decide ((IntKind.wrap .i64 (s1.2.1 + (x3.len : Int))) < (0 : Int))) fF (J4 (()))))
    (callT P fg #[(.slice none 0 0), (.int .i64 s1.2.1)] .sl fun r6 =>
      lfp (σ := (Int × (Sl × Unit))) (fun X7 s8 => brB (decide (s8.1 < (a0.len : Int)))
        (sx a0.a a0.len s8.1 1 fun p9 => ldT .sl p9 fun x10 => apd t 1 by_ #[z] ⟨s8.2.1.a, s8.2.1.len, s8.2.1.cap⟩ ⟨x10.a, x10.len, x10.cap⟩ fun s11 => X7 ((IntKind.wrap .i64 (s8.1 + (1 : Int))), ⟨s11.a, s11.len, s11.cap⟩, ()))
        (K ⟨s8.2.1.a, s8.2.1.len, s8.2.1.cap⟩))
      ((0 : Int), ⟨r6.a, r6.len, r6.cap⟩, ()))) ((0 : Int), (0 : Int), ())
theorem flat_take_succ {α : Type} {xss : List (List α)} {i : Nat} (hi : i < xss.length) : (xss.take (i + 1)).flatten = (xss.take i).flatten ++ xss[i] := by
  rw [take_succ_getE hi, List.flatten_append]; simp
theorem flat_take_le {α : Type} (xss : List (List α)) (i : Nat) : (xss.take i).flatten.length ≤ xss.flatten.length := by
  have e := congrArg (fun l : List (List α) => l.flatten.length) (List.take_append_drop i xss)
  simp only [List.flatten_append, List.length_append] at e; omega
theorem w_concat {fg : FuncId} {ps : List Sl} {xss : List (List τ.T)} (hp : At h (rsl Ty.sl.enc ps s)) (hlen : xss.length = ps.length) (hx : ∀ i (hi : i < ps.length), At h (rsl τ.enc (xss[i]'(by omega)) ps[i]))
    (hl : ps.length ≤ 1099511627776) (htot : xss.flatten.length * by_ ≤ 140737488355328) (hby : 0 < by_) (hleaf : Leaf τ)
    (hg : ∀ (n : Int) (K : Sl → HP) (h : Heap), W_grow t by_ z ⟨none, 0, 0⟩ n K h → callT P fg #[.slice none 0 0, .int .i64 n] .sl K h) {K : Sl → HP}
    (hK : ∀ s' h', New h.size h' (osl t τ.enc xss.flatten s') → Ext [] h h' → K s' h') : W_concat P τ t by_ z fg s K h := by
  have l1 := rsl_len hp
  have htot2 : xss.flatten.length ≤ 140737488355328 := Nat.le_trans (Nat.le_mul_of_pos_right _ hby) htot
  refine lfp_invh (I := fun m σ h' => ∃ i : Nat, σ = ((i : Int), ((xss.take i).flatten.length : Int), ()) ∧ i ≤ ps.length ∧ h' = h ∧ m = ps.length - i) ⟨_, 0, rfl, by omega, rfl, rfl⟩ ?_
  rintro m σ h' X ⟨i, rfl, hi, rfl, em⟩ hX
  by_cases hlt : i < ps.length
  · simp only
    rw [show decide ((i : Int) < (s.len : Int)) = true by rw [l1]; exact dlt_t hlt, brB_true, inc_i (show i < 4611686018427387904 by omega)]
    refine rdE (τ := .sl) hp hlt ?_
    have hl2 := rsl_len (hx i hlt)
    have e1 := flat_take_succ (xss := xss) (i := i) (by omega)
    have e2 := flat_take_le xss (i + 1)
    have e3 : IntKind.wrap .i64 (((xss.take i).flatten.length : Int) + (ps[i].len : Int)) = ((xss.take (i + 1)).flatten.length : Int) := by
      rw [e1, List.length_append]
      rw [e1, List.length_append] at e2
      rw [hl2, wrap_i64 (by omega) (by omega)]; omega
    rw [e3]
    refine jn_in fun J hJ => ?_
    have e4 : decide (((xss.take (i + 1)).flatten.length : Int) < 0) = false := decide_eq_false (by omega)
    rw [e4, brB_false]
    exact hJ _ _ (hX _ _ _ ⟨i + 1, rfl, by omega, rfl, rfl⟩ (by omega))
  · simp only
    rw [show decide ((i : Int) < (s.len : Int)) = false by rw [l1]; exact dlt_f hlt, brB_false]
    rw [List.take_of_length_le (by omega)]
    refine hg _ _ _ (w_grow_nil (τ := τ) htot hby fun s' h1 n1 x1 => ?_)
    have st := (Hs.start h' [] (by simp)).new x1 n1
    clear hX
    refine lfp_invh (I := fun m σ h2 => ∃ (i : Nat) (s' : Sl), σ = ((i : Int), s', ()) ∧ i ≤ ps.length ∧ Hs [([], h')] [] [osl t τ.enc (xss.take i).flatten s'] h2 ∧ m = ps.length - i) ⟨_, 0, s', rfl, by omega, by simpa using st, rfl⟩ ?_
    clear st n1 x1
    rintro m σ h2 X ⟨i, s', rfl, hi, st, em⟩ hX
    by_cases hlt : i < ps.length
    · simp only
      rw [show decide ((i : Int) < (s.len : Int)) = true by rw [l1]; exact dlt_t hlt, brB_true, inc_i (show i < 4611686018427387904 by omega)]
      refine rdE (τ := .sl) (hp.ext (st.frame (by simp))) hlt ?_
      have e1 := flat_take_succ (xss := xss) (i := i) (by omega)
      have e2 := flat_take_le xss (i + 1)
      refine st.apdS 0 rfl ((hx i hlt).ext (st.frame (by simp))) hleaf ?_ hby fun s3 h3 st => ?_
      · rw [e1, List.length_append] at e2
        exact Nat.le_trans (Nat.mul_le_mul_right _ e2) htot
      · refine hX _ _ _ ⟨i + 1, s3, rfl, by omega, ?_, rfl⟩ (by omega)
        rw [e1]; exact st
    · simp only
      rw [show decide ((i : Int) < (s.len : Int)) = false by rw [l1]; exact dlt_f hlt, brB_false]
      rw [List.take_of_length_le (by omega)] at st
      exact hK _ _ (st.res (by simp) 0 rfl) (st.frame (by simp))
theorem Hs.wrE (st : Hs fr G As h) (k : Nat) (hk : As[k]? = some (osl t τ.enc xs s)) {i : Nat} (hi : i < xs.length) (v : τ.T) {K : HP} (hK : ∀ h', Hs fr G (As.set k (osl t τ.enc (xs.set i v) s)) h' → K h') :
    sx s.a s.len (i : Int) 1 (fun p => Sx.st1 p (τ.enc v) K) h := by
  obtain ⟨S1, p, hw⟩ := st.focus k hk
  rcases p with ⟨b, rest, eS, es, hb⟩ | ⟨_, ex, _⟩
  · subst es
    refine ⟨_, rfl, by omega, Int.ofNat_lt.2 hi, ?_⟩
    rw [Int.toNat_natCast, Nat.mul_one, addr_add]
    show Sx.st1 _ _ _ _
    rw [st_ok hb (by simp; omega)]
    have hb2 := hb.set (0 + i) (τ.enc v)
    have e3 : (xs.map τ.enc ++ rest).set (0 + i) (τ.enc v) = (xs.set i v).map τ.enc ++ rest := by
      rw [List.set_append_left _ _ (by simp; omega)]; simp
    rw [e3] at hb2
    exact hK _ (hw _ [b] _ ((Ext.refl' S1 h).set _ _ (by simp [eS])) (.inl ⟨b, rest, rfl, by simp, hb2⟩) (by simp [eS]))
  · subst ex; simp at hi
theorem addr_add_add (a : Addr) (l i : Nat) : (a.add l).add i = a.add (l + i) := by
  unfold Addr.add
  by_cases h1 : l = 0
  · subst h1; simp
  · by_cases h2 : i = 0
    · subst h2; simp
    · simp [h1, h2, Nat.add_assoc]
end
end Go.Sx
namespace Go.Proofs.S
open Go Go.Sx Go.Proofs Go.Cl
variable {h : Heap} {c d : List Int} {s s2 : Sl} {fr : Fr} {G As : List Asn}
end Go.Proofs.S
namespace Go.Proofs.S
open Go Go.Sx Go.Proofs Go.Cl
variable {h : Heap} {c d : List Int} {s s2 : Sl} {fr : Fr} {G As : List Asn}
theorem sel {N : List Int} (hs : Strict N) (hrt : ∀ x ∈ N, rt x = true) (hm : ∀ x, x ∈ N ↔ x ∈ c) {k : Nat} (hk : k ≤ N.length) {last b : Int} (hl : ∀ j (hj : j < N.length), ix N[j] > last ↔ k ≤ j)
    (hb : (b = -1 ∧ ∀ x ∈ c, ¬ ix x > last) ∨ (∃ x ∈ c, ix x = b ∧ ix x > last ∧ ∀ y ∈ c, ix y > last → b ≤ ix y)) : (k = N.length ∧ b = -1) ∨ (∃ hk : k < N.length, b = ix N[k]) := by
  rcases hb with ⟨rfl, hn⟩ | ⟨x, hx, e, hgt, hmin⟩
  · refine .inl ⟨?_, rfl⟩
    rcases Nat.lt_or_eq_of_le hk with h | h
    · exact absurd ((hl k h).2 (Nat.le_refl _)) (hn _ ((hm _).1 (List.getElem_mem h)))
    · exact h
  · obtain ⟨j, hj, rfl⟩ := List.mem_iff_getElem.1 ((hm x).2 hx)
    have hkj := (hl j hj).1 hgt
    have hkl : k < N.length := by omega
    refine .inr ⟨hkl, ?_⟩
    have h1 := hmin _ ((hm _).1 (List.getElem_mem hkl)) ((hl k hkl).2 (Nat.le_refl _))
    rcases Nat.lt_or_eq_of_le hkj with h | h
    · have := List.pairwise_iff_getElem.1 hs k j hkl hj h
      rw [ltL_rt (hrt _ (List.getElem_mem _)) (hrt _ (List.getElem_mem _))] at this
      omega
    · subst h; exact e.symm
theorem ix_nonneg {x : Int} (h : rt x = true) : 0 ≤ ix x := by have := rt_iff.1 h; unfold ix; split <;> omega
theorem r1_right_c (x : Int) : callT Tryz.prog fn_salvorref01_Right #[.int .i64 x] .bool (fun r h' => r = rt x ∧ h' = h) h := by
  refine callT_gen fun K hK => S_salvorref01_Right (a0 := x) K ?_
  unfold F_salvorref01_Right
  have key : ∀ b : Bool, b = rt x → K b h := fun b e => hK _ _ ⟨e, rfl⟩
  by_cases h1 : x ≥ 1
  · rw [decide_eq_true h1, brB_true]
    by_cases h2 : x ≤ 1048576
    · rw [decide_eq_true h2, brB_true]; exact key _ (rt_iff.2 (by omega)).symm
    · rw [decide_eq_false h2, brB_false]
      rw [decide_eq_true (show x ≥ -1048576 by omega), brB_true]
      refine key _ ?_
      rw [decide_eq_false (by omega)]
      cases h : rt x with
      | false => rfl
      | true => have := rt_iff.1 h; omega
  · rw [decide_eq_false h1, brB_false]
    by_cases h2 : x ≥ -1048576
    · rw [decide_eq_true h2, brB_true]
      refine key _ ?_
      by_cases h3 : x ≤ -1
      · rw [decide_eq_true h3]; exact (rt_iff.2 (by omega)).symm
      · rw [decide_eq_false h3]
        cases h : rt x with
        | false => rfl
        | true => have := rt_iff.1 h; omega
    · rw [decide_eq_false h2, brB_false]
      refine key _ ?_
      cases h : rt x with
      | false => rfl
      | true => have := rt_iff.1 h; omega
theorem r1_index_c (x : Int) : callT Tryz.prog fn_salvorref01_Index #[.int .i64 x] (.int .i64) (fun r h' => r = (if rt x then ix x else -1) ∧ h' = h) h := by
  refine callT_gen fun K hK => S_salvorref01_Index (a0 := x) K ?_
  unfold F_salvorref01_Index
  refine call_of (r1_right_c x) ?_
  rintro r h' ⟨rfl, rfl⟩
  cases hx : rt x with
  | false => simp only [Bool.not_false, brB_true]; exact hK _ _ ⟨by simp [hx], rfl⟩
  | true =>
    have := rt_iff.1 hx
    simp only [Bool.not_true, brB_false]
    by_cases hneg : x < 0
    · simp only [hneg, decide_true, brB_true]
      refine hK _ _ ⟨?_, rfl⟩
      rw [wrap_i64 (x := 0 - x) (by omega) (by omega), wrap_i64 (x := 0 - x - 1) (by omega) (by omega), wrap_i64 (x := 2 * (0 - x - 1)) (by omega) (by omega), wrap_i64 (by omega) (by omega)]
      simp [hx, ix, hneg]
    · simp only [hneg, decide_false, brB_false]
      refine hK _ _ ⟨?_, rfl⟩
      rw [wrap_i64 (x := x - 1) (by omega) (by omega), wrap_i64 (by omega) (by omega)]
      simp [hx, ix, hneg]
theorem r1_at_c {x : Int} (hx : rt x = true) : callT Tryz.prog fn_salvorref01_At #[.int .i64 (ix x)] (.int .i64) (fun r h' => r = x ∧ h' = h) h := by
  refine callT_gen fun K hK => S_salvorref01_At (a0 := ix x) K ?_
  unfold F_salvorref01_At
  have hx' := rt_iff.1 hx
  have h0 := ix_nonneg hx
  have h1 : ix x ≤ 2097151 := by unfold ix; split <;> omega
  rw [decide_eq_false (show ¬ ix x < 0 by omega), brB_false, decide_eq_false (show ¬ ix x > 2097151 by omega), brB_false]
  refine ⟨by decide, by decide, ?_⟩
  rw [Int.tmod_eq_emod_of_nonneg h0, Int.tdiv_eq_ediv_of_nonneg h0]
  by_cases hneg : x < 0
  · have e1 : ix x = 2 * (-x - 1) + 1 := by unfold ix; rw [if_pos hneg]
    have e2 : ix x % 2 = 1 := by omega
    have e3 : ix x / 2 = -x - 1 := by omega
    rw [e2, e3]
    rw [show ((1 : Int) == 1) = true from rfl, brB_true]
    refine hK _ _ ⟨?_, rfl⟩
    rw [wrap_i64 (x := -x - 1) (by omega) (by omega), wrap_i64 (x := -x - 1 + 1) (by omega) (by omega), wrap_i64 (by omega) (by omega)]
    exact (show (0 - (-x - 1 + 1) : Int) = x by omega)
  · have e1 : ix x = 2 * (x - 1) := by unfold ix; rw [if_neg hneg]
    have e2 : ix x % 2 = 0 := by omega
    have e3 : ix x / 2 = x - 1 := by omega
    rw [e2, e3]
    rw [show ((0 : Int) == 1) = false from rfl, brB_false]
    refine hK _ _ ⟨?_, rfl⟩
    rw [wrap_i64 (x := x - 1) (by omega) (by omega), wrap_i64 (by omega) (by omega)]
    exact (show (x - 1 + 1 : Int) = x by omega)
theorem r2_right_c (hA : At h (li c s)) (hl : c.length ≤ 1099511627776) : callT Tryz.prog fn_salvorref02_Right #[.slice s.a s.len s.cap] .bool (fun r h' => r = rightC c ∧ h' = h) h := by
  refine callT_gen fun K hK => S_salvorref02_Right (a0 := s) K ?_
  unfold F_salvorref02_Right
  have l1 := rsl_len hA
  by_cases h1 : c.length > 4096
  · rw [decide_eq_true (show (s.len : Int) > 4096 by omega), brB_true]
    refine hK _ _ ⟨?_, rfl⟩
    unfold rightC; rw [decide_eq_false (by omega)]; rfl
  · rw [decide_eq_false (show ¬ (s.len : Int) > 4096 by omega), brB_false]
    refine lfp_invh (I := fun m σ h' => ∃ i : Nat, σ = ((i : Int), false, ()) ∧ i ≤ c.length ∧ (∀ j (hj : j < c.length), j < i → rt c[j] = true) ∧ h' = h ∧ m = c.length - i) ⟨_, 0, rfl, by omega, by omega, rfl, rfl⟩ ?_
    rintro m σ h' X ⟨i, rfl, hi, hp, rfl, em⟩ hX
    simp only
    by_cases hlt : i < c.length
    · rw [show decide ((i : Int) < (s.len : Int)) = true by rw [l1]; exact dlt_t hlt, brB_true, inc_i (show i < 4611686018427387904 by omega)]
      refine rdE (τ := i64) hA hlt ?_
      refine call_of (r1_right_c _) ?_
      rintro r h2 ⟨rfl, rfl⟩
      cases he : rt c[i] with
      | true =>
        simp only [Bool.not_true, brB_false]
        refine hX _ _ _ ⟨i + 1, rfl, by omega, fun j hj hji => ?_, rfl, rfl⟩ (by omega)
        by_cases ej : j = i
        · subst ej; exact he
        · exact hp j hj (by omega)
      | false =>
        simp only [Bool.not_false, brB_true]
        refine hK _ _ ⟨?_, rfl⟩
        have : c.all rt = false := List.all_eq_false.2 ⟨_, List.getElem_mem hlt, by simp [he]⟩
        unfold rightC; rw [this, Bool.and_false]
    · rw [show decide ((i : Int) < (s.len : Int)) = false by rw [l1]; exact dlt_f hlt, brB_false]
      refine hK _ _ ⟨?_, rfl⟩
      have : c.all rt = true := by
        rw [List.all_eq_true]
        intro x hx
        obtain ⟨j, hj, rfl⟩ := List.mem_iff_getElem.1 hx
        exact hp j hj (by omega)
      unfold rightC; rw [this, decide_eq_true (by omega)]; rfl
end Go.Proofs.S
namespace Go.Proofs.S
open Go Go.Sx Go.Proofs Go.Cl
variable {h : Heap} {c d : List Int} {s s2 : Sl} {fr : Fr} {G As : List Asn}
end Go.Proofs.S
namespace Go.Cl
open Go.Sx
def insL (x : Int) : List Int → List Int
  | [] => [x]
  | y :: ys => if x = y then y :: ys else if ltL x y then x :: y :: ys else y :: insL x ys
def nrmF (c : List Int) : List Int := c.foldr insL []
theorem mem_insL {x z : Int} : ∀ {ys : List Int}, z ∈ insL x ys ↔ z = x ∨ z ∈ ys
  | [] => by simp [insL]
  | y :: ys => by
    unfold insL
    split
    · rename_i e; subst e; simp
    · split
      · simp
      · rw [List.mem_cons, mem_insL, List.mem_cons]
        constructor
        · rintro (h | h | h)
          · exact .inr (.inl h)
          · exact .inl h
          · exact .inr (.inr h)
        · rintro (h | h | h)
          · exact .inr (.inl h)
          · exact .inl h
          · exact .inr (.inr h)
theorem insL_strict {x : Int} : ∀ {ys : List Int}, Strict ys → Strict (insL x ys)
  | [], _ => by simp [insL]
  | y :: ys, h => by
    have h' := List.pairwise_cons.1 h
    unfold insL
    split
    · exact h
    · split
      · rename_i hlt
        exact List.pairwise_cons.2 ⟨fun z hz => by
          rcases List.mem_cons.1 hz with rfl | hz
          · exact hlt
          · exact ltL_trans hlt (h'.1 z hz), h⟩
      · rename_i hne hlt
        have hyx : ltL y x = true := by
          cases hh : ltL y x with
          | true => rfl
          | false => exact absurd (ltL_total (by simpa using hlt) hh) hne
        refine List.pairwise_cons.2 ⟨fun z hz => ?_, insL_strict h'.2⟩
        rcases mem_insL.1 hz with rfl | hz
        · exact hyx
        · exact h'.1 z hz
theorem nrmF_spec : ∀ (c : List Int), Strict (nrmF c) ∧ ∀ x, x ∈ nrmF c ↔ x ∈ c
  | [] => ⟨List.Pairwise.nil, fun x => Iff.rfl⟩
  | y :: ys => by
    obtain ⟨h1, h2⟩ := nrmF_spec ys
    exact ⟨insL_strict h1, fun x => by rw [show nrmF (y :: ys) = insL y (nrmF ys) from rfl, mem_insL, h2, List.mem_cons]⟩
def nrmT (c : List Int) : List Int := if c.all rt then nrmF c else nrm c
theorem nrm_T : nrm = nrmT := by
  funext c
  unfold nrmT
  split
  · rename_i h
    rw [List.all_eq_true] at h
    exact (nrm_eq h (nrmF_spec c).1 (nrmF_spec c).2).symm
  · rfl
end Go.Cl
set_option linter.unusedSimpArgs false
namespace Go.Proofs.S
open Go Go.Sx Go.Proofs Go.Cl
variable {h : Heap} {c d : List Int} {s s2 : Sl} {fr : Fr} {G As : List Asn}
end Go.Proofs.S
