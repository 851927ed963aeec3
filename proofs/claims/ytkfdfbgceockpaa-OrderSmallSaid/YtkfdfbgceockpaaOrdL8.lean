/-
  OrderBumps.
-/
import Derived.Test.YtkfdfbgceockpaaOrdDel
set_option linter.unusedVariables false
namespace Go.Proofs.Ord
open Go Go.Sx Go.Proofs

theorem pos_count {act L : List Int} (s : Sorted act L) {k : Nat} (hk : k < L.length) : L.countP (fun u => bef act u (g L k)) = k := by
  have e : L = L.take k ++ g L k :: L.drop (k + 1) := by
    have : L.drop k = g L k :: L.drop (k + 1) := by
      rw [List.drop_eq_getElem_cons hk]; simp [g, List.getD_eq_getElem?_getD, List.getElem?_eq_getElem hk]
    rw [← this, List.take_append_drop]
  have h1 : (L.take k).countP (fun u => bef act u (g L k)) = k := by
    rw [List.countP_eq_length.2]
    · simp; omega
    · intro u hu
      obtain ⟨j, hj, ej⟩ := List.mem_iff_getElem.1 hu
      simp at hj
      have := s.g (show j < k by omega) hk
      rw [List.getElem_take] at ej
      simpa [g, List.getD_eq_getElem?_getD, List.getElem?_eq_getElem (show j < L.length by omega), ej] using this
  have h2 : (g L k :: L.drop (k + 1)).countP (fun u => bef act u (g L k)) = 0 := by
    rw [List.countP_eq_zero]
    intro u hu
    simp only [List.mem_cons] at hu
    rcases hu with rfl | hu
    · simp [bef]
    · obtain ⟨j, hj, ej⟩ := List.mem_iff_getElem.1 hu
      simp at hj
      have := s.g (show k < k + 1 + j by omega) (by omega)
      rw [List.getElem_drop] at ej
      have : bef act (g L k) u = true := by simpa [g, List.getD_eq_getElem?_getD, List.getElem?_eq_getElem (show k + 1 + j < L.length by omega), ej] using this
      simp [bef_asymm this]
  have h3 := congrArg (List.countP (fun u => bef act u (g L k))) e
  rw [List.countP_append, h1, h2] at h3
  omega

/-- A variable that has become more active stands no later than before. -/
theorem bump_pos {act : List Int} {L L' : List Int} {n v : Nat} {d : Int} (hd : 0 ≤ d) (s : Sorted act L) (s' : Sorted (act.set v (g act v + d)) L') (p : L'.Perm L) (hm : ∀ x ∈ L, 1 ≤ x)
    {j k : Nat} (hj : j < L.length) (hk : k < L'.length) (ej : g L j = (v : Int)) (ek : g L' k = (v : Int)) : k ≤ j := by
  have h1 := pos_count s hj
  have h2 := pos_count s' hk
  rw [p.countP_eq] at h2
  rw [← h1, ← h2, ej, ek]
  refine List.countP_mono_left fun u hu hb => ?_
  have hu1 := hm u hu
  rw [bef_iff, g_set, g_set] at hb
  rw [bef_iff]
  simp only [Int.toNat_natCast, true_and] at hb ⊢
  split at hb <;> split at hb <;> rcases hb with hb | hb <;> first | omega | skip
  all_goals (rename_i a1 a2; have : u.toNat = v := a1.1.symm; subst this; omega)

theorem not_bef {act : List Int} {u v : Int} : u ≠ v → (fun x => !(x == v)) u = true := by intro h; simp [h]

/-- What is not the variable stays in order. -/
theorem bump_rest {act : List Int} {L L' : List Int} {v : Nat} {d : Int} (s : Sorted act L) (s' : Sorted (act.set v (g act v + d)) L') (p : L'.Perm L) (hm : ∀ x ∈ L, 1 ≤ x) :
    L.filter (fun x => !(x == (v : Int))) = L'.filter (fun x => !(x == (v : Int))) := by
  refine Sorted.unique (act := act.set v (g act v + d)) ?_ (List.Pairwise.filter _ s') (p.symm.filter _)
  refine (List.Pairwise.filter (fun x => !(x == (v : Int))) s).imp_of_mem ?_
  intro a b ha hb h
  obtain ⟨ha, ha'⟩ := List.mem_filter.1 ha
  obtain ⟨hb, hb'⟩ := List.mem_filter.1 hb
  have := hm a ha
  have := hm b hb
  simp at ha' hb'
  rw [bef_iff] at h ⊢
  rw [g_set, g_set, if_neg (by omega), if_neg (by omega)]
  exact h

theorem orderBumps_1_c {h : Heap} {b : Nat} {v : Int} (kb : Blk h b 3 [.int .i64 v]) (x : Int) :
    callF Try.prog (.func (.func 31) #[] #[.pointer (pt b)]) #[.int .i64 x] .bool (fun r h' => r = (x == v) ∧ h' = h) h := by
  refine callF_func (S_salvorlaw11_OrderBumps_1 (a0 := x) (c0 := ⟨b, 0, none⟩) _ ?_)
  unfold F_salvorlaw11_OrderBumps_1
  simp only [ld_int (i := 0) kb rfl]
  trivial

theorem delete_c {h : Heap} {b : Nat} {xs : List Int} {s : Sl} {kb : Nat} {v : Int} (hs : ISl0 h b xs s) (hl : xs.length ≤ 2000000) (k : Blk h kb 3 [.int .i64 v]) (hne : kb ≠ b) :
    callT Try.prog fn_slices_DeleteFunc_int_int #[.slice s.a s.len s.cap, .func (.func 31) #[] #[.pointer (pt kb)]] .sl (fun s' h' => ISl0 h' b (xs.filter (fun x => !(x == v))) s' ∧ Ext [b] h h') h := by
  rcases hs with hs | ⟨rfl, h1, h2⟩
  · refine call_of (deleteFunc_c hs hl fun h' x y _ => orderBumps_1_c (k.ext x (by simpa using hne)) y) ?_
    rintro s' h' ⟨a, b⟩
    exact ⟨.inl a, b⟩
  · refine callT_gen fun K hK => ?_
    refine S_slices_DeleteFunc_int_int (a0 := s) K ?_
    unfold F_slices_DeleteFunc_int_int
    refine call_of (indexFunc_c (b := b) (xs := []) (p := fun x => x == v) (.inr ⟨rfl, h1, h2⟩) (by simp) (by simp)) ?_
    rintro x _ ⟨hx, rfl⟩
    rcases hx with ⟨rfl, _⟩ | ⟨i, _, hi, _⟩
    · simp only [beq_self_eq_true, brB_true]
      exact hK _ _ ⟨.inr ⟨rfl, h1, h2⟩, Ext.refl _ _⟩
    · simp at hi

theorem pos_of {L : List Int} {v x : Int} (hx : (x = -1 ∧ v ∉ L) ∨ (∃ k : Nat, x = k ∧ k < L.length ∧ g L k = v ∧ ∀ j, j < k → g L j ≠ v)) :
    (x < 0 ↔ v ∉ L) ∧ (v ∈ L → ∃ k : Nat, x = k ∧ k < L.length ∧ g L k = v) := by
  rcases hx with ⟨rfl, hn⟩ | ⟨k, rfl, hk, e, _⟩
  · exact ⟨by simp [hn], fun h => absurd h hn⟩
  · exact ⟨⟨fun h => by omega, fun h => absurd (e ▸ g_mem hk) h⟩, fun _ => ⟨k, rfl, hk, e⟩⟩

theorem orderBumps_F {h : Heap} {a : Sl} {p : Int} (hb : Byts h a.a a.len) (hc : a.len ≤ a.cap) (hp0 : 0 ≤ p) (hp1 : p < 256) :
    ∀ K : Bool → HP, (∀ x h', (x = true ∧ Ext [] h h') → K x h') → F_salvorlaw11_OrderBumps a p K h := by
  intro K hK
  unfold F_salvorlaw11_OrderBumps
  rw [ev12 hp0 hp1]
  obtain ⟨vn, ev⟩ : ∃ v : Nat, (v : Int) = 1 + p % 12 := ⟨(1 + p % 12).toNat, by omega⟩
  have v1 : 1 ≤ (vn : Int) ∧ (vn : Int) ≤ (12 : Nat) := by omega
  rw [← ev]
  refine call_of (put_lawB hb hc) ?_
  rintro _ h1 ⟨o, S, act, step, L, rfl, w, hst, hact⟩
  have e0 : ((0 : Int) != 0) = false := rfl
  have nS : ∀ b ∈ S, b < h1.size := w.1.lt
  simp only [Bool.not_true, brB_false, nz_ok (show (12 : Int) ≠ 0 by decide), nw_eq]
  have x1 := (Ext.refl [] h1).push (.cells #[.int .i64 0] 3)
  have kb := Blk.new h1 3 #[.int .i64 0]
  have w := w.ext0 x1
  have s1 : (h1.push (.cells #[.int .i64 0] 3)).size = h1.size + 1 := by simp
  generalize h1.push (.cells #[.int .i64 0] 3) = h2 at *
  rw [st_ok kb (by simp)]
  have kb := kb.set 0 (.int .i64 (vn : Int))
  have x2 := (Ext.refl [h1.size] h2).set ⟨h1.size, 0, none⟩ (.int .i64 (vn : Int)) (by simp)
  have w : Own h (setC h2 ⟨h1.size, 0, none⟩ (.int .i64 (vn : Int))) S o 12 act step L := ⟨w.1.ext x2 (fun b hb => by have := nS b hb; simp; omega), w.2.1, w.2.2.1.trans x2 (fun b hb => by simp at hb; subst hb; have := w.2.2.1.1; have := nS; have := w.2.2.2; exact .inr (by
    have := x1.1; rcases Nat.lt_or_ge h1.size h.size with k | k
    · exact absurd (Nat.le_trans (Nat.le_refl _) (Nat.le_of_lt k)) (by
        have hh := w.1.lt
        obtain ⟨ab, hb2, pb, H, Pl, rfl, _⟩ := w.1
        have := w.2.2.2 o (by simp); have := nS o (by simp); omega)
    · exact k)), w.2.2.2⟩
  have z2 := x2.1
  generalize setC h2 ⟨h1.size, 0, none⟩ (.int .i64 (vn : Int)) = h3 at *
  simp only [List.set_cons_zero] at kb
  refine call_of (w.list (by omega)) ?_
  rintro _ h4 ⟨⟨sa, sl, sc⟩, b1, rfl, is1, g1, lt1, x4, w⟩
  have l1 : sl = L.length := is1.len
  subst l1
  have kb := kb.ext x4 (by simp)
  refine mks_ok (n := 12) (by omega) fun h5 kw x5 s5 => ?_
  have w := w.ext0 x5
  have kb := kb.ext x5 (by simp)
  have is1 := is1.ext x5 (by simp)
  have z4 := x4.1
  have hlL := w.1.len
  have i0 : ∀ v : Nat, 1 ≤ v → v ≤ 12 → ∀ act : List Int, (if 1 ≤ (v : Int) ∧ (v : Int) ≤ (12 : Nat) then ((g act (v : Int).toNat, 0, ()) : Int × Int × Unit) else (0, 110, ())) = (g act v, 0, ()) := fun v h1 h2 act => by
    rw [if_pos ⟨by omega, by omega⟩, Int.toNat_natCast]
  refine lfp_invh (I := fun m σ h' => ∃ (i : Nat) (ws : List Int), σ = ((i : Int), ()) ∧ 1 ≤ i ∧ i ≤ 13 ∧ ws.length = 13 ∧ (∀ j, 1 ≤ j → j < i → g ws j = g act j) ∧ Own h h' S o 12 act step L ∧ Blk h' h4.size 3 (ints ws ++ []) ∧ Blk h' h1.size 3 [.int .i64 (vn : Int)] ∧
      ISl0 h' b1 L ⟨sa, L.length, sc⟩ ∧ h5.size ≤ h'.size ∧ m = 13 - i) ⟨_, 1, zeros 13, rfl, by omega, by omega, by simp, fun j h1 h2 => by omega, w, kw, kb, is1, Nat.le_refl _, rfl⟩ ?_
  clear w kw kb is1
  rintro m σ h6 X ⟨i, ws, rfl, hi1, hi, hwl, hws, w, kw, kb, is1, z6, rfl⟩ hX
  by_cases hlt : i < 13
  · have e3 : decide ((i : Int) ≤ 12) = true := by simp; omega
    simp only [e3, brB_true, inc64 (show i < 100000000 by omega)]
    refine call_of (activityR_c w.1 _) ?_
    rintro _ h7 ⟨rfl, rfl⟩
    rw [i0 i hi1 (by omega)]
    have ew := wrn (k := i) (v := .int .i64 (g act i)) (K := X (((i + 1 : Nat) : Int), ())) kw (by omega)
    rw [hwl] at ew
    show sx (pt h4.size) 13 (i : Int) 1 _ _
    rw [ew]
    have xx := (Ext.refl [h4.size] h7).set ⟨h4.size, i, none⟩ (.int .i64 (g act i)) (by simp)
    have nS4 : ∀ b ∈ S, b ∉ [h4.size] := fun b hb => by have := nS b hb; simp; omega
    refine hX _ _ _ ⟨i + 1, ws.set i (g act i), rfl, by omega, by omega, by simpa using hwl, fun j h1 h2 => ?_, ⟨w.1.ext xx nS4, w.2.1, w.2.2.1.trans xx (fun b hb => by simp at hb; subst hb; exact .inr (by have := w.2.2.1.1; have := is1; rcases Nat.lt_or_ge h4.size h.size with k | k; (· obtain ⟨ab, hb2, pb, H, Pl, rfl, _⟩ := w.1; have := w.2.2.2 o (by simp); have := nS o (by simp); omega); exact k)), w.2.2.2⟩, Blk.set_ints kw (g act i) (by omega), kb.ext xx (by simp; omega), is1.ext xx (by simp; omega), Nat.le_trans z6 xx.1, rfl⟩ (by omega)
    rw [g_set]
    split
    · rename_i hh; rw [hh.1]
    · exact hws j h1 (by rename_i hh; omega)
  have e3 : decide ((i : Int) ≤ 12) = false := by simp; omega
  have ei : i = 13 := by omega
  subst ei
  simp only [e3, brB_false]
  clear hX X
  refine call_of (stepR_c w.1) ?_
  rintro sv h7 ⟨ex, rfl⟩
  rw [ex]
  simp only [Bool.not_true, brB_false]
  rw [ld_int (i := 0) kb rfl]
  refine call_of (w.bump (vn : Int) (by omega)) ?_
  rintro _ h8 ⟨rfl, w8, x8⟩
  have hno : ¬ g act vn + step > maxA := by have := hact vn; simp only [maxA]; omega
  have eA : bumpA act 12 vn step = act.set vn (g act vn + step) := by unfold bumpA; rw [if_pos v1, if_neg (by simpa using hno)]; simp
  have eS : bumpS act 12 vn step = step := by unfold bumpS; rw [if_pos v1, if_neg (by simpa using hno)]
  rw [eA, eS] at w8
  simp only [if_pos v1, e0, brB_false]
  refine call_of (stepR_c w8.1) ?_
  rintro sy h9 ⟨ey, rfl⟩
  rw [ey]
  simp only [bne_self_eq_false, brB_false]
  have nS4 : h4.size ∉ S := fun hb => by have := nS _ hb; omega
  have nS1 : h1.size ∉ S := fun hb => by have := nS _ hb; omega
  have nSb : b1 ∉ S := fun hb => by have := nS _ hb; omega
  have kw := kw.ext x8 nS4
  have kb := kb.ext x8 nS1
  have is1 := is1.ext x8 nSb
  have sL := w.1.sorted
  have mL := w.1.mem
  have z7 := x8.1
  have pL : (srt (act.set vn (g act vn + step)) L).Perm L := srt_perm _ _
  have hst1 := w.2.1.s1
  clear w
  refine call_of (w8.list (by omega)) ?_
  rintro _ h10 ⟨⟨ta, tl, tc⟩, b2, rfl, is2, g2, lt2, x10, w⟩
  have sL' := w.1.sorted
  generalize srt (act.set vn (g act vn + step)) L = L' at *
  have l2 : tl = L'.length := is2.len
  subst l2
  have kw := kw.ext x10 (by simp)
  have kb := kb.ext x10 (by simp)
  have is1 := is1.ext x10 (by simp)
  have b14 : b1 < h10.size := by have := x10.1; omega
  have bne : b1 ≠ b2 := by
    intro e; subst e
    have := kb.lt; have := lt1; omega
  have hlL' := w.1.len
  have hal : act.length = 13 := hlL.1
  refine lfp_invh (I := fun m σ h' => ∃ (i : Nat), σ = ((i : Int), false, ()) ∧ 1 ≤ i ∧ i ≤ 13 ∧ h' = h10 ∧ m = 13 - i) ⟨_, 1, rfl, by omega, by omega, rfl, rfl⟩ ?_
  rintro m σ h' X ⟨i, rfl, hi1, hi, rfl, rfl⟩ hX
  by_cases hlt : i < 13
  · have e3 : decide ((i : Int) ≤ 12) = true := by simp; omega
    simp only [e3, brB_true, inc64 (show i < 100000000 by omega)]
    refine call_of (activityR_c w.1 _) ?_
    rintro _ h11 ⟨rfl, rfl⟩
    rw [i0 i hi1 (by omega)]
    have er := rdn (k := i) (K := fun x17 => ldT (.int .i64) (⟨h1.size, 0, none⟩ : Addr) fun x18 =>
      jn (σ := (Int × Unit)) (fun s20 => brB (((0 : Int)) != (0 : Int)) (K false) (brB (g (act.set vn (g act vn + step)) i != s20.1) (K false) (X (((i + 1 : Nat) : Int), false, ()))))
      (fun J19 => brB ((i : Int) == x18) (J19 ((IntKind.wrap .i64 (x17 + step)), ())) (J19 (x17, ())))) kw (by omega)
    rw [hwl] at er
    show sx (pt h4.size) 13 (i : Int) 1 _ _
    refine Eq.mpr er ?_
    rw [ld_int (i := 0) kb rfl]
    rw [hws i hi1 hlt]
    refine jn_mid (M := fun s h2 => s.1 = g (act.set vn (g act vn + step)) i ∧ h2 = h11) ?_ ?_
    · rintro ⟨s, ⟨⟩⟩ h2 ⟨e, rfl⟩
      simp only at e
      subst e
      simp only [e0, brB_false, bne_self_eq_false]
      exact hX _ _ _ ⟨i + 1, rfl, by omega, by omega, rfl, rfl⟩ (by omega)
    · intro J hJ
      by_cases hiv : i = vn
      · subst hiv
        simp only [beq_self_eq_true, brB_true]
        refine hJ _ _ ⟨?_, rfl⟩
        have := hact i
        have := w.2.1.hi i
        show IntKind.wrap .i64 (g act i + step) = _
        rw [g_set, if_pos ⟨rfl, by omega⟩]
        have hlo := w.2.1.lo i
        rw [g_set, if_pos ⟨rfl, by omega⟩] at hlo
        rw [wrap_i64 (by omega) (by omega)]
      · have e5 : ((i : Int) == (vn : Int)) = false := by simp; omega
        simp only [e5, brB_false]
        refine hJ _ _ ⟨?_, rfl⟩
        show g act i = _
        rw [g_set, if_neg (by omega)]
  have e3 : decide ((i : Int) ≤ 12) = false := by simp; omega
  simp only [e3, brB_false]
  clear hX X
  rw [ld_int (i := 0) kb rfl, ld_int (i := 0) kb rfl]
  refine call_of (index_c is1 (by omega) (vn : Int)) ?_
  rintro x h12 ⟨hx, rfl⟩
  rw [ck_ok (i := 0) kb rfl]
  refine call_of (index_c is2 (by omega) (vn : Int)) ?_
  rintro y h13 ⟨hy, rfl⟩
  obtain ⟨hx1, hx2⟩ := pos_of hx
  obtain ⟨hy1, hy2⟩ := pos_of hy
  have hmm : (vn : Int) ∈ L ↔ (vn : Int) ∈ L' := pL.mem_iff.symm
  have hle : y ≤ x := by
    by_cases hv : (vn : Int) ∈ L
    · obtain ⟨j, rfl, hj, ej⟩ := hx2 hv
      obtain ⟨k, rfl, hk, ek⟩ := hy2 (hmm.1 hv)
      have := bump_pos (n := 12) (d := step) (by omega) sL sL' pL (fun x hx => (mL x hx).1) hj hk ej ek
      exact Int.ofNat_le.2 this
    · have e1 : x = -1 := by
        rcases hx with ⟨e, _⟩ | ⟨k, _, hk, e, _⟩
        · exact e
        · exact absurd (e ▸ g_mem hk) hv
      have e2 : y = -1 := by
        rcases hy with ⟨e, _⟩ | ⟨k, _, hk, e, _⟩
        · exact e
        · exact absurd (e ▸ g_mem hk) (fun h => hv (hmm.2 h))
      rw [e1, e2]; exact Int.le_refl _
  have e7 : (decide (y < 0) == decide (x < 0)) = true := by
    have : (y < 0 ↔ x < 0) := by rw [hx1, hy1, hmm]
    simp [this]
  simp only [brB_true, hle, decide_true, e7]
  have nb1 : h1.size ≠ b1 := by have := z4; omega
  have nb2 : h1.size ≠ b2 := by have := kb.lt; have := g2; omega
  refine call_of (delete_c is1 (by omega) kb nb1) ?_
  rintro s25 h14 ⟨is3, x14⟩
  refine call_of (delete_c (is2.ext x14 (by simpa using bne.symm)) (by omega) (kb.ext x14 (by simpa using nb1)) nb2) ?_
  rintro s26 h15 ⟨is4, x15⟩
  have hfl : (L.filter (fun x => !(x == (vn : Int)))).length ≤ 2000000 := Nat.le_trans (List.length_filter_le _ _) (by omega)
  refine call_of (equal_c (is3.ext x15 (by simpa using bne)) is4 hfl) ?_
  rintro _ h16 ⟨rfl, rfl⟩
  have eF := bump_rest sL sL' pL (fun x hx => (mL x hx).1)
  simp only [eF, decide_true, brB_true]
  refine call_of (awake_c _) ?_
  rintro _ h8 ⟨rfl, x17⟩
  have xa := w.2.2.1
  have hz : h.size ≤ b1 ∧ h.size ≤ b2 := by
    obtain ⟨ab, hb2, pb, H, Pl, rfl, _⟩ := w.1
    have := w.2.2.2 o (by simp); have := nS o (by simp)
    omega
  exact hK _ _ ⟨rfl, ((xa.trans x14 (by simp; omega)).trans x15 (by simp; omega)).nil_trans x17⟩

end Go.Proofs.Ord
