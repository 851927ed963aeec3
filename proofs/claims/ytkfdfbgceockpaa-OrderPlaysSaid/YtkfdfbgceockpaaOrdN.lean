/-
  New.
-/
import Derived.Test.YtkfdfbgceockpaaOrdR
set_option linter.unusedVariables false
set_option linter.unusedSimpArgs false
set_option linter.unusedSectionVars false
namespace Go.Proofs.Ord
open Go Go.Sx Go.Proofs

def iota (n : Nat) : List Int := (List.range n).map (fun k : Nat => (k : Int) + 1)
theorem iota_succ (n : Nat) : iota (n + 1) = iota n ++ [(n : Int) + 1] := by simp [iota, List.range_succ]
theorem length_iota (n : Nat) : (iota n).length = n := by simp [iota]
theorem g_iota {n i : Nat} (h : i < n) : g (iota n) i = i + 1 := by
  simp only [g, List.getD_eq_getElem?_getD, iota, List.getElem?_map, List.getElem?_range h]; rfl

abbrev zeros (n : Nat) : List Int := List.replicate n 0
theorem g_zeros {n i : Nat} : g (zeros n) i = 0 := by
  simp only [g, List.getD_eq_getElem?_getD, List.getElem?_replicate]; split <;> rfl

theorem bef_zeros {n : Nat} {a b : Int} : bef (zeros n) a b = decide (a < b) := by
  unfold bef; simp [g_zeros]

theorem sorted_iota (m n : Nat) : Sorted (zeros m) (iota n) := by
  unfold iota Sorted
  rw [List.pairwise_map]
  refine List.Pairwise.imp ?_ List.pairwise_lt_range
  intro a b hab
  rw [bef_zeros]; simpa using hab

theorem new_loop {h : Heap} {o ab hb pb n : Nat} {Pl : List Int} {K : (Option Addr × (Int × Unit)) → HP} (hn : n ≤ 1048576) (hpl : Pl.length = n + 1) (hz : ∀ w, g Pl w = 0)
    (r : Raw h o ab hb pb (zeros (n + 1)) [] Pl 1024) (hbl : hb < h.size) (hK : ∀ h' hb', Rep h' [o, ab, hb', pb] o n (zeros (n + 1)) 1024 (iota n) → Ext [o, ab, hb, pb] h h' → (hb' = hb ∨ h.size ≤ hb') → K (pt o, 0, ()) h') :
    lfp (σ := (Int × Unit)) (fun X14 s15 =>
      brB (decide (s15.1 ≤ (n : Int)))
      (ldT .sl ((⟨o, 0, none⟩ : Addr).add 2) fun x16 =>
      ldT .sl ((⟨o, 0, none⟩ : Addr).add 1) fun x17 =>
      sx x16.a x16.len s15.1 1 fun p18 =>
      st1 p18 (.int .i64 (x17.len : Int)) <|
      ldT .sl ((⟨o, 0, none⟩ : Addr).add 1) fun x19 =>
      nw #[(.int .i64 s15.1)] 3 fun b20 =>
      apd 3 1 8 #[(.int .i64 (0 : Int))] ⟨x19.a, x19.len, x19.cap⟩ ⟨(some (⟨b20, 0, none⟩ : Addr)), 1, 1⟩ fun s21 =>
      st1 ((⟨o, 0, none⟩ : Addr).add 1) (.slice s21.a s21.len s21.cap) <|
      X14 ((IntKind.wrap .i64 (s15.1 + (1 : Int))), ()))
      (K ((some (⟨o, 0, none⟩ : Addr)), (0 : Int), ())))
      ((1 : Int), ()) h := by
  refine lfp_invh (I := fun m s h' => ∃ (k : Nat) (hb' : Nat) (Pl' : List Int), s = ((k : Int) + 1, ()) ∧ k ≤ n ∧ Raw h' o ab hb' pb (zeros (n + 1)) (iota k) Pl' 1024 ∧ hb' < h'.size ∧ Pl'.length = n + 1 ∧ (∀ w, g Pl' w = if 1 ≤ w ∧ w ≤ k then (w : Int) - 1 else 0) ∧
      Ext [o, ab, hb, pb] h h' ∧ (hb' = hb ∨ h.size ≤ hb') ∧ m = n - k) ⟨_, 0, hb, Pl, rfl, by omega, r, hbl, hpl, fun w => by rw [hz, if_neg (by omega)], Ext.refl _ _, .inl rfl, rfl⟩ ?_
  rintro m s h' X ⟨k, hb', Pl', rfl, hk, r, hbl', hpl', hg, x0, bz, rfl⟩ hX
  by_cases hlt : k < n
  · have e : decide (((k + 1 : Nat) : Int) ≤ (n : Int)) = true := by simp; omega
    obtain ⟨ha, ch, ra, rp, rc⟩ := r.common
    have ek : ((k : Int) + 1) = (k + 1 : Nat) := by omega
    have lk : (iota k).length = k := length_iota k
    simp only [e, brB_true, addr_add, rc.l2, rc.l1, ek, wrn rc.P (k := k + 1) (show k + 1 < Pl'.length by omega)]
    have rc1 := rc.setPl (i := k + 1) ((iota k).length : Int) (by omega)
    have x1 : Ext [o, ab, hb', pb] h' (setC h' ⟨pb, k + 1, none⟩ (.int .i64 (iota k).length)) := (Ext.refl _ _).set _ _ (by simp)
    have s1 : (setC h' ⟨pb, k + 1, none⟩ (.int .i64 (iota k).length)).size = h'.size := by simp
    have is1 : ISl0 (setC h' ⟨pb, k + 1, none⟩ (.int .i64 (iota k).length)) hb' (iota k) ⟨ha, (iota k).length, ch⟩ ∧ (0 < ch → o ≠ hb' ∧ ab ≠ hb' ∧ pb ≠ hb') := by
      rcases r with ⟨ra', rh', rp', r⟩ | ⟨e0, ra', rp', ha', r⟩
      · have eO := rc.O.inj r.O
        simp at eO
        obtain ⟨_, ⟨e3, e4⟩, _⟩ := eO
        subst e3; subst e4
        exact ⟨.inl ⟨rh', rfl, r.Hh.set_ne _ (Ne.symm r.ph)⟩, fun _ => ⟨r.oh, r.ah, r.ph⟩⟩
      · have eO := rc.O.inj r.O
        simp at eO
        exact ⟨.inr ⟨e0, by rw [e0]; rfl, eO.2.1.2.2⟩, fun h => by rw [eO.2.1.2.2] at h; omega⟩
    obtain ⟨is1, hne⟩ := is1
    simp only [rc1.l1, nw_eq]
    generalize setC h' ⟨pb, k + 1, none⟩ (.int .i64 (iota k).length) = h1 at *
    have x2 := x1.push (.cells #[.int .i64 (k + 1 : Nat)] 3)
    have xb := (Ext.refl [] h1).push (.cells #[.int .i64 (k + 1 : Nat)] 3)
    have kb := Blk.new h1 3 #[.int .i64 (k + 1 : Nat)]
    have rc2 := rc1.ext xb (by simp) (by simp) (by simp)
    have is2 : ISl0 (h1.push (.cells #[.int .i64 (k + 1 : Nat)] 3)) hb' (iota k) ⟨ha, (iota k).length, ch⟩ := by
      rcases is1 with ⟨rest, e, hb'⟩ | h0
      · exact .inl ⟨rest, e, hb'.ext xb (by simp)⟩
      · exact .inr h0
    have s2 : (h1.push (.cells #[.int .i64 (k + 1 : Nat)] 3)).size = h1.size + 1 := by simp
    generalize h1.push (.cells #[.int .i64 (k + 1 : Nat)] 3) = h2 at *
    refine apd_ok is2 kb (by omega) ?_
    rintro s' h3 b' ⟨rest, rfl, hb3⟩ hwh
    have olt := rc2.O.lt
    have alt := rc2.A.lt
    have plt := rc2.P.lt
    have hd3 : o ≠ b' ∧ ab ≠ b' ∧ pb ≠ b' := by
      rcases hwh with ⟨rfl, _, hcap⟩ | ⟨rfl, _⟩
      · exact hne hcap
      · omega
    have hx3 : Ext [hb'] h2 h3 := by
      rcases hwh with ⟨_, hx, _⟩ | ⟨_, hx⟩
      · exact hx
      · exact hx.mono (by simp)
    have rc3 : RawC h3 o ab pb (zeros (n + 1)) (Pl'.set (k + 1) (iota k).length) 1024 ha (iota k).length ch ra rp := by
      rcases hwh with ⟨rfl, hx, hcap⟩ | ⟨rfl, hx⟩
      · exact rc2.ext hx (by simp; omega) (by simp; omega) (by simp; omega)
      · exact rc2.ext hx (by simp) (by simp) (by simp)
    have x3 := x2.trans hx3 (by intro b hb; simp at hb ⊢; omega)
    simp only [addr_add]
    rw [Nat.zero_add, st_ok rc3.O (by simp)]
    have eio : iota k ++ [((k + 1 : Nat) : Int)] = iota (k + 1) := by rw [iota_succ]; rfl
    rw [eio] at hb3 ⊢
    have rc4 := rc3.setHeap (pt b') (iota (k + 1)).length ((iota (k + 1)).length + rest.length)
    have x4 := x3.set ⟨o, 1, none⟩ (.slice (pt b') (iota (k + 1)).length ((iota (k + 1)).length + rest.length)) (by simp)
    have hb4 := hb3.set_ne (a := ⟨o, 1, none⟩) (.slice (pt b') (iota (k + 1)).length ((iota (k + 1)).length + rest.length)) (Ne.symm hd3.1)
    have rh4 : RawH _ o ab b' pb (zeros (n + 1)) (iota (k + 1)) (Pl'.set (k + 1) (iota k).length) 1024 ra rest rp := ⟨rc4, hb4, hd3.1, hd3.2.1, hd3.2.2⟩
    have bsz : b' = hb' ∨ h'.size ≤ b' := by
      rcases hwh with ⟨rfl, _⟩ | ⟨rfl, _⟩
      · exact .inl rfl
      · exact .inr (by omega)
    have ew : IntKind.wrap .i64 (((k + 1 : Nat) : Int) + 1) = ((k + 1 : Nat) : Int) + 1 := wrap_i64 (by omega) (by omega)
    rw [ew]
    have hz0 := x0.1
    refine hX _ _ _ ⟨k + 1, b', _, rfl, by omega, .inl ⟨_, _, _, rh4⟩, rh4.Hh.lt, by simp [hpl'], ?_, x0.trans x4 ?_, by omega, rfl⟩ (by omega)
    · intro w
      rw [g_set, hg]
      by_cases e1 : k + 1 = w
      · subst e1; rw [if_pos ⟨rfl, by omega⟩, if_pos (by omega), lk]; omega
      · rw [if_neg (by omega)]
        by_cases e2 : 1 ≤ w ∧ w ≤ k
        · rw [if_pos e2, if_pos (by omega)]
        · rw [if_neg e2, if_neg (by omega)]
    · intro b hb; simp at hb ⊢; omega
  · have e : decide (((k : Int) + 1) ≤ (n : Int)) = false := by simp; omega
    simp only [e, brB_false]
    have ekn : k = n := by omega
    subst ekn
    have cs : Cons (iota k) Pl' k := by
      have lk : (iota k).length = k := length_iota k
      refine ⟨hpl', fun i hi => ?_, fun i hi => ?_, fun v h1 h2 h3 => ?_⟩
      · rw [g_iota (by omega)]; omega
      · rw [g_iota (by omega), hg, if_pos (by omega)]; omega
      · rw [hg, if_pos ⟨h1, h2⟩]
        refine ⟨by omega, ?_⟩
        rw [g_iota (by omega)]; omega
    refine hK _ hb' ⟨ab, hb', pb, iota k, Pl', rfl, r, cs, ?_, by simp, hn, (sorted_iota _ _).eq_srt (List.Perm.refl _), hbl'⟩ x0 bz
    intro j j0 j1
    rw [length_iota] at j1
    have := par_def j
    rw [bef_zeros, g_iota (by omega), g_iota (by omega)]; simp; omega

theorem mks_ok {h : Heap} {n : Nat} {K : Sl → HP} (hn : n ≤ 1048576) (hK : ∀ h', Blk h' h.size 3 (ints (zeros (n + 1)) ++ []) → Ext [] h h' → h'.size = h.size + 1 → K ⟨pt h.size, n + 1, n + 1⟩ h') :
    mks 3 1 8 #[.int .i64 0] ((n + 1 : Nat) : Int) ((n + 1 : Nat) : Int) K h := by
  refine ⟨by omega, by omega, by omega, by omega, ?_⟩
  have e : ((n + 1 : Nat) : Int).toNat = n + 1 := by simp
  rw [e]
  have hb := Blk.new h 3 (if (n + 1) * 1 = 0 then #[] else zrow #[.int .i64 0] ((n + 1) * 1))
  refine hK _ ?_ ((Ext.refl _ _).push _) (by simp)
  have e2 : (if (n + 1) * 1 = 0 then #[] else zrow #[.int .i64 0] ((n + 1) * 1)).toList = ints (zeros (n + 1)) ++ [] := by
    rw [if_neg (by omega), Nat.mul_one, List.append_nil]
    unfold zrow
    apply List.ext_getElem
    · simp
    · intro i h1 h2
      simp
      exact Nat.mod_one i ▸ rfl
  rwa [e2] at hb

theorem new_c (n : Nat) (hn : n ≤ 1048576) (h : Heap) : callT Try.prog fn_order_New #[.int .i64 n] (.tup (.cons .ptr (.cons (.int .i64) .nil)))
    (fun x h' => ∃ o S, x = (pt o, 0, ()) ∧ Rep h' S o n (zeros (n + 1)) 1024 (iota n) ∧ Ext [] h h' ∧ ∀ b ∈ S, h.size ≤ b) h := by
  refine callT_gen fun K hK => ?_
  apply S_order_New
  unfold F_order_New
  have e1 : decide ((n : Int) < 0) = false := by simp
  have e2 : decide ((n : Int) > 1048576) = false := by simp; omega
  have e3 : IntKind.wrap .i64 ((n : Int) + 1) = (n + 1 : Nat) := by rw [wrap_i64 (by omega) (by omega)]; omega
  simp only [e1, e2, brB_false, e3]
  constructor
  · refine mks_ok hn fun h1 k1 x1 s1 => mks_ok hn fun h2 k2 x2 s2 => ?_
    rw [s1] at k2 s2
    rw [s1]
    simp only [nw_eq]
    have k1 := k1.ext x2 (by simp)
    have xo := (Ext.refl [] h2).push (.cells #[.slice (pt h.size) (n + 1) (n + 1), .slice none 0 0, .slice (pt (h.size + 1)) (n + 1) (n + 1), .int .i64 1024, .bool true] 56)
    have ko := Blk.new h2 56 #[.slice (pt h.size) (n + 1) (n + 1), .slice none 0 0, .slice (pt (h.size + 1)) (n + 1) (n + 1), .int .i64 1024, .bool true]
    have so : (h2.push (.cells #[.slice (pt h.size) (n + 1) (n + 1), .slice none 0 0, .slice (pt (h.size + 1)) (n + 1) (n + 1), .int .i64 1024, .bool true] 56)).size = h2.size + 1 := by simp
    have k1 := k1.ext xo (by simp)
    have k2 := k2.ext xo (by simp)
    have x3 := (x1.nil_trans x2).nil_trans xo
    generalize h2.push (.cells #[.slice (pt h.size) (n + 1) (n + 1), .slice none 0 0, .slice (pt (h.size + 1)) (n + 1) (n + 1), .int .i64 1024, .bool true] 56) = h3 at *
    rw [s2] at ko so ⊢
    refine new_loop (ab := h.size) (hb := h.size + 1 + 1) (pb := h.size + 1) (Pl := zeros (n + 1)) hn (by simp) (fun w => g_zeros) (.inr ⟨rfl, [], [], none, ⟨by simpa using ko, k1, k2, by omega, by omega, by omega⟩⟩) (by omega) ?_
    intro h4 hb' rp x4 _
    have := x3.1
    refine hK _ _ ⟨_, _, rfl, rp, x3.trans x4 ?_, ?_⟩
    · intro b hb; simp at hb; omega
    · intro b hb; simp at hb; omega
  · refine mks_ok hn fun h1 k1 x1 s1 => mks_ok hn fun h2 k2 x2 s2 => ?_
    rw [s1] at k2 s2
    rw [s1]
    simp only [nw_eq]
    have k1 := k1.ext x2 (by simp)
    have xo := (Ext.refl [] h2).push (.cells #[.slice (pt (h.size + 1)) (n + 1) (n + 1), .slice none 0 0, .slice (pt h.size) (n + 1) (n + 1), .int .i64 1024, .bool true] 56)
    have ko := Blk.new h2 56 #[.slice (pt (h.size + 1)) (n + 1) (n + 1), .slice none 0 0, .slice (pt h.size) (n + 1) (n + 1), .int .i64 1024, .bool true]
    have so : (h2.push (.cells #[.slice (pt (h.size + 1)) (n + 1) (n + 1), .slice none 0 0, .slice (pt h.size) (n + 1) (n + 1), .int .i64 1024, .bool true] 56)).size = h2.size + 1 := by simp
    have k1 := k1.ext xo (by simp)
    have k2 := k2.ext xo (by simp)
    have x3 := (x1.nil_trans x2).nil_trans xo
    generalize h2.push (.cells #[.slice (pt (h.size + 1)) (n + 1) (n + 1), .slice none 0 0, .slice (pt h.size) (n + 1) (n + 1), .int .i64 1024, .bool true] 56) = h3 at *
    rw [s2] at ko so ⊢
    refine new_loop (ab := h.size + 1) (hb := h.size + 1 + 1) (pb := h.size) (Pl := zeros (n + 1)) hn (by simp) (fun w => g_zeros) (.inr ⟨rfl, [], [], none, ⟨by simpa using ko, k2, k1, by omega, by omega, by omega⟩⟩) (by omega) ?_
    intro h4 hb' rp x4 _
    have := x3.1
    refine hK _ _ ⟨_, _, rfl, rp, x3.trans x4 ?_, ?_⟩
    · intro b hb; simp at hb; omega
    · intro b hb; simp at hb; omega

theorem new_bad (a : Int) (ha : a < 0 ∨ a > 1048576) (h : Heap) : callT Try.prog fn_order_New #[.int .i64 a] (.tup (.cons .ptr (.cons (.int .i64) .nil))) (fun x h' => x = (none, 2, ()) ∧ h' = h) h := by
  refine callT_gen fun K hK => ?_
  apply S_order_New
  unfold F_order_New
  by_cases h1 : a < 0
  · simp only [h1, decide_true, brB_true]; exact hK _ _ ⟨rfl, rfl⟩
  · have h2 : a > 1048576 := by omega
    simp only [h1, h2, decide_true, decide_false, brB_true, brB_false]; exact hK _ _ ⟨rfl, rfl⟩

end Go.Proofs.Ord
