/-
  New.
-/
import Derived.Test.YtkfdfbgceockpaaOrdR
set_option linter.unusedVariables false
set_option linter.unusedSimpArgs false
set_option linter.unusedSectionVars false
namespace Go.Proofs.Ord
open Go Go.Sx Go.Proofs

def iota (n : Nat) : List Int := (List.range n).map (fun k : Nat => (k : Int) + 1)
theorem iota_succ (n : Nat) : iota (n + 1) = iota n ++ [(n : Int) + 1] := by simp [iota, List.range_succ]
theorem length_iota (n : Nat) : (iota n).length = n := by simp [iota]
theorem g_iota {n i : Nat} (h : i < n) : g (iota n) i = i + 1 := by
  simp only [g, List.getD_eq_getElem?_getD, iota, List.getElem?_map, List.getElem?_range h]; rfl

abbrev zeros (n : Nat) : List Int := List.replicate n 0
theorem g_zeros {n i : Nat} : g (zeros n) i = 0 := by
  simp only [g, List.getD_eq_getElem?_getD, List.getElem?_replicate]; split <;> rfl

theorem bef_zeros {n : Nat} {a b : Int} : bef (zeros n) a b = decide (a < b) := by
  unfold bef; simp [g_zeros]

theorem sorted_iota (m n : Nat) : Sorted (zeros m) (iota n) := by
  unfold iota Sorted
  rw [List.pairwise_map]
  refine List.Pairwise.imp ?_ List.pairwise_lt_range
  intro a b hab
  rw [bef_zeros]; simpa using hab

theorem new_loop {h : Heap} {o ab hb pb n : Nat} {Pl : List Int} {K : (Option Addr × (Int × Unit)) → HP} (hn : n ≤ 1048576) (hpl : Pl.length = n + 1) (hz : ∀ w, g Pl w = 0)
    (r : Raw h o ab hb pb (zeros (n + 1)) [] Pl 1024) (hbl : hb < h.size) (hK : ∀ h' hb', Rep h' [o, ab, hb', pb] o n (zeros (n + 1)) 1024 (iota n) → Ext [o, ab, hb, pb] h h' → (hb' = hb ∨ h.size ≤ hb') → K (pt o, 0, ()) h') :
    lfp (σ := (Int × Unit)) (fun X14 s15 =>
      brB (decide (s15.1 ≤ (n : Int)))
      (ldT .sl ((⟨o, 0, none⟩ : Addr).add 2) fun x16 =>
      ldT .sl ((⟨o, 0, none⟩ : Addr).add 1) fun x17 =>
      sx x16.a x16.len s15.1 1 fun p18 =>
      st1 p18 (.int .i64 (x17.len : Int)) <|
      ldT .sl ((⟨o, 0, none⟩ : Addr).add 1) fun x19 =>
      nw #[(.int .i64 s15.1)] 3 fun b20 =>
      apd 3 1 8 #[(.int .i64 (0 : Int))] ⟨x19.a, x19.len, x19.cap⟩ ⟨(some (⟨b20, 0, none⟩ : Addr)), 1, 1⟩ fun s21 =>
      st1 ((⟨o, 0, none⟩ : Addr).add 1) (.slice s21.a s21.len s21.cap) <|
      X14 ((IntKind.wrap .i64 (s15.1 + (1 : Int))), ()))
      (K ((some (⟨o, 0, none⟩ : Addr)), (0 : Int), ())))
      ((1 : Int), ()) h := by
  refine lfp_invh (I := fun m s h' => ∃ (k : Nat) (hb' : Nat) (Pl' : List Int), s = ((k : Int) + 1, ()) ∧ k ≤ n ∧ Raw h' o ab hb' pb (zeros (n + 1)) (iota k) Pl' 1024 ∧ hb' < h'.size ∧ Pl'.length = n + 1 ∧ (∀ w, g Pl' w = if 1 ≤ w ∧ w ≤ k then (w : Int) - 1 else 0) ∧
      Ext [o, ab, hb, pb] h h' ∧ (hb' = hb ∨ h.size ≤ hb') ∧ m = n - k) ⟨_, 0, hb, Pl, rfl, by omega, r, hbl, hpl, fun w => by rw [hz, if_neg (by omega)], Ext.refl _ _, .inl rfl, rfl⟩ ?_
  rintro m s h' X ⟨k, hb', Pl', rfl, hk, r, hbl', hpl', hg, x0, bz, rfl⟩ hX
  by_cases hlt : k < n
  · have e : decide (((k + 1 : Nat) : Int) ≤ (n : Int)) = true := by simp; omega
    obtain ⟨ha, ch, ra, rp, rc⟩ := r.common
    have ek : ((k : Int) + 1) = (k + 1 : Nat) := by omega
    have lk : (iota k).length = k := length_iota k
    simp only [e, brB_true, addr_add, rc.l2, rc.l1, ek, wrn rc.P (k := k + 1) (show k + 1 < Pl'.length by omega)]
    have rc1 := rc.setPl (i := k + 1) ((iota k).length : Int) (by omega)
    have x1 : Ext [o, ab, hb', pb] h' (setC h' ⟨pb, k + 1, none⟩ (.int .i64 (iota k).length)) := (Ext.refl _ _).set _ _ (by simp)
    have s1 : (setC h' ⟨pb, k + 1, none⟩ (.int .i64 (iota k).length)).size = h'.size := by simp
    have is1 : ISl0 (setC h' ⟨pb, k + 1, none⟩ (.int .i64 (iota k).length)) hb' (iota k) ⟨ha, (iota k).length, ch⟩ ∧ (0 < ch → o ≠ hb' ∧ ab ≠ hb' ∧ pb ≠ hb') := by
      rcases r with ⟨ra', rh', rp', r⟩ | ⟨e0, ra', rp', ha', r⟩
      · have eO := rc.O.inj r.O
        simp at eO
        obtain ⟨_, ⟨e3, e4⟩, _⟩ := eO
        subst e3; subst e4
        exact ⟨.inl ⟨rh', rfl, r.Hh.set_ne _ (Ne.symm r.ph)⟩, fun _ => ⟨r.oh, r.ah, r.ph⟩⟩
      · have eO := rc.O.inj r.O
        simp at eO
        exact ⟨.inr ⟨e0, by rw [e0]; rfl, eO.2.1.2.2⟩, fun h => by rw [eO.2.1.2.2] at h; omega⟩
    obtain ⟨is1, hne⟩ := is1
    simp only [rc1.l1, nw_eq]
    generalize setC h' ⟨pb, k + 1, none⟩ (.int .i64 (iota k).length) = h1 at *
    have x2 := x1.push (.cells #[.int .i64 (k + 1 : Nat)] 3)
    have xb := (Ext.refl [] h1).push (.cells #[.int .i64 (k + 1 : Nat)] 3)
    have kb := Blk.new h1 3 #[.int .i64 (k + 1 : Nat)]
    have rc2 := rc1.ext xb (by simp) (by simp) (by simp)
    have is2 : ISl0 (h1.push (.cells #[.int .i64 (k + 1 : Nat)] 3)) hb' (iota k) ⟨ha, (iota k).length, ch⟩ := by
      rcases is1 with ⟨rest, e, hb'⟩ | h0
      · exact .inl ⟨rest, e, hb'.ext xb (by simp)⟩
      · exact .inr h0
    have s2 : (h1.push (.cells #[.int .i64 (k + 1 : Nat)] 3)).size = h1.size + 1 := by simp
    generalize h1.push (.cells #[.int .i64 (k + 1 : Nat)] 3) = h2 at *
    refine apd_ok is2 kb (by omega) ?_
    rintro s' h3 b' ⟨rest, rfl, hb3⟩ hwh
    have olt := rc2.O.lt
    have alt := rc2.A.lt
    have plt := rc2.P.lt
    have hd3 : o ≠ b' ∧ ab ≠ b' ∧ pb ≠ b' := by
      rcases hwh with ⟨rfl, _, hcap⟩ | ⟨rfl, _⟩
      · exact hne hcap
      · omega
    have hx3 : Ext [hb'] h2 h3 := by
      rcases hwh with ⟨_, hx, _⟩ | ⟨_, hx⟩
      · exact hx
      · exact hx.mono (by simp)
    have rc3 : RawC h3 o ab pb (zeros (n + 1)) (Pl'.set (k + 1) (iota k).length) 1024 ha (iota k).length ch ra rp := by
      rcases hwh with ⟨rfl, hx, hcap⟩ | ⟨rfl, hx⟩
      · exact rc2.ext hx (by simp; omega) (by simp; omega) (by simp; omega)
      · exact rc2.ext hx (by simp) (by simp) (by simp)
    have x3 := x2.trans hx3 (by intro b hb; simp at hb ⊢; omega)
    simp only [addr_add]
    rw [Nat.zero_add, st_ok rc3.O (by simp)]
    have eio : iota k ++ [((k + 1 : Nat) : Int)] = iota (k + 1) := by rw [iota_succ]; rfl
    rw [eio] at hb3 ⊢
    have rc4 := rc3.setHeap (pt b') (iota (k + 1)).length ((iota (k + 1)).length + rest.length)
    have x4 := x3.set ⟨o, 1, none⟩ (.slice (pt b') (iota (k + 1)).length ((iota (k + 1)).length + rest.length)) (by simp)
    have hb4 := hb3.set_ne (a := ⟨o, 1, none⟩) (.slice (pt b') (iota (k + 1)).length ((iota (k + 1)).length + rest.length)) (Ne.symm hd3.1)
    have rh4 : RawH _ o ab b' pb (zeros (n + 1)) (iota (k + 1)) (Pl'.set (k + 1) (iota k).length) 1024 ra rest rp := ⟨rc4, hb4, hd3.1, hd3.2.1, hd3.2.2⟩
    have bsz : b' = hb' ∨ h'.size ≤ b' := by
      rcases hwh with ⟨rfl, _⟩ | ⟨rfl, _⟩
      · exact .inl rfl
      · exact .inr (by omega)
    have ew : IntKind.wrap .i64 (((k + 1 : Nat) : Int) + 1) = ((k + 1 : Nat) : Int) + 1 := wrap_i64 (by omega) (by omega)
    rw [ew]
    have hz0 := x0.1
    refine hX _ _ _ ⟨k + 1, b', _, rfl, by omega, .inl ⟨_, _, _, rh4⟩, rh4.Hh.lt, by simp [hpl'], ?_, x0.trans x4 ?_, by omega, rfl⟩ (by omega)
    · intro w
      rw [g_set, hg]
      by_cases e1 : k + 1 = w
      · subst e1; rw [if_pos ⟨rfl, by omega⟩, if_pos (by omega), lk]; omega
      · rw [if_neg (by omega)]
        by_cases e2 : 1 ≤ w ∧ w ≤ k
        · rw [if_pos e2, if_pos (by omega)]
        · rw [if_neg e2, if_neg (by omega)]
    · intro b hb; simp at hb ⊢; omega
  · have e : decide (((k : Int) + 1) ≤ (n : Int)) = false := by simp; omega
    simp only [e, brB_false]
    have ekn : k = n := by omega
    subst ekn
    have cs : Cons (iota k) Pl' k := by
      have lk : (iota k).length = k := length_iota k
      refine ⟨hpl', fun i hi => ?_, fun i hi => ?_, fun v h1 h2 h3 => ?_⟩
      · rw [g_iota (by omega)]; omega
      · rw [g_iota (by omega), hg, if_pos (by omega)]; omega
      · rw [hg, if_pos ⟨h1, h2⟩]
        refine ⟨by omega, ?_⟩
        rw [g_iota (by omega)]; omega
    refine hK _ hb' ⟨ab, hb', pb, iota k, Pl', rfl, r, cs, ?_, by simp, hn, (sorted_iota _ _).eq_srt (List.Perm.refl _), hbl'⟩ x0 bz
    intro j j0 j1
    rw [length_iota] at j1
    have := par_def j
    rw [bef_zeros, g_iota (by omega), g_iota (by omega)]; simp; omega

theorem mks_ok {h : Heap} {n : Nat} {K : Sl → HP} (hn : n ≤ 1048576) (hK : ∀ h', Blk h' h.size 3 (ints (zeros (n + 1)) ++ []) → Ext [] h h' → h'.size = h.size + 1 → K ⟨pt h.size, n + 1, n + 1⟩ h') :
    mks 3 1 8 #[.int .i64 0] ((n + 1 : Nat) : Int) ((n + 1 : Nat) : Int) K h := by
  refine ⟨by omega, by omega, by omega, by omega, ?_⟩
  have e : ((n + 1 : Nat) : Int).toNat = n + 1 := by simp
  rw [e]
  have hb := Blk.new h 3 (if (n + 1) * 1 = 0 then #[] else zrow #[.int .i64 0] ((n + 1) * 1))
  refine hK _ ?_ ((Ext.refl _ _).push _) (by simp)
  have e2 : (if (n + 1) * 1 = 0 then #[] else zrow #[.int .i64 0] ((n + 1) * 1)).toList = ints (zeros (n + 1)) ++ [] := by
    rw [if_neg (by omega), Nat.mul_one, List.append_nil]
    unfold zrow
    apply List.ext_getElem
    · simp
    · intro i h1 h2
      simp
      exact Nat.mod_one i ▸ rfl
  rwa [e2] at hb

theorem new_c (n : Nat) (hn : n ≤ 1048576) (h : Heap) : callT Try.prog fn_order_New #[.int .i64 n] (.tup (.cons .ptr (.cons (.int .i64) .nil)))
    (fun x h' => ∃ o S, x = (pt o, 0, ()) ∧ Rep h' S o n (zeros (n + 1)) 1024 (iota n) ∧ Ext [] h h' ∧ ∀ b ∈ S, h.size ≤ b) h := by
  refine callT_gen fun K hK => ?_
  apply S_order_New
  unfold F_order_New
  have e1 : decide ((n : Int) < 0) = false := by simp
  have e2 : decide ((n : Int) > 1048576) = false := by simp; omega
  have e3 : IntKind.wrap .i64 ((n : Int) + 1) = (n + 1 : Nat) := by rw [wrap_i64 (by omega) (by omega)]; omega
  simp only [e1, e2, brB_false, e3]
  constructor
  · refine mks_ok hn fun h1 k1 x1 s1 => mks_ok hn fun h2 k2 x2 s2 => ?_
    rw [s1] at k2 s2
    rw [s1]
    simp only [nw_eq]
    have k1 := k1.ext x2 (by simp)
    have xo := (Ext.refl [] h2).push (.cells #[.slice (pt h.size) (n + 1) (n + 1), .slice none 0 0, .slice (pt (h.size + 1)) (n + 1) (n + 1), .int .i64 1024, .bool true] 56)
    have ko := Blk.new h2 56 #[.slice (pt h.size) (n + 1) (n + 1), .slice none 0 0, .slice (pt (h.size + 1)) (n + 1) (n + 1), .int .i64 1024, .bool true]
    have so : (h2.push (.cells #[.slice (pt h.size) (n + 1) (n + 1), .slice none 0 0, .slice (pt (h.size + 1)) (n + 1) (n + 1), .int .i64 1024, .bool true] 56)).size = h2.size + 1 := by simp
    have k1 := k1.ext xo (by simp)
    have k2 := k2.ext xo (by simp)
    have x3 := (x1.nil_trans x2).nil_trans xo
    generalize h2.push (.cells #[.slice (pt h.size) (n + 1) (n + 1), .slice none 0 0, .slice (pt (h.size + 1)) (n + 1) (n + 1), .int .i64 1024, .bool true] 56) = h3 at *
    rw [s2] at ko so ⊢
    refine new_loop (ab := h.size) (hb := h.size + 1 + 1) (pb := h.size + 1) (Pl := zeros (n + 1)) hn (by simp) (fun w => g_zeros) (.inr ⟨rfl, [], [], none, ⟨by simpa using ko, k1, k2, by omega, by omega, by omega⟩⟩) (by omega) ?_
    intro h4 hb' rp x4 _
    have := x3.1
    refine hK _ _ ⟨_, _, rfl, rp, x3.trans x4 ?_, ?_⟩
    · intro b hb; simp at hb; omega
    · intro b hb; simp at hb; omega
  · refine mks_ok hn fun h1 k1 x1 s1 => mks_ok hn fun h2 k2 x2 s2 => ?_
    rw [s1] at k2 s2
    rw [s1]
    simp only [nw_eq]
    have k1 := k1.ext x2 (by simp)
    have xo := (Ext.refl [] h2).push (.cells #[.slice (pt (h.size + 1)) (n + 1) (n + 1), .slice none 0 0, .slice (pt h.size) (n + 1) (n + 1), .int .i64 1024, .bool true] 56)
    have ko := Blk.new h2 56 #[.slice (pt (h.size + 1)) (n + 1) (n + 1), .slice none 0 0, .slice (pt h.size) (n + 1) (n + 1), .int .i64 1024, .bool true]
    have so : (h2.push (.cells #[.slice (pt (h.size + 1)) (n + 1) (n + 1), .slice none 0 0, .slice (pt h.size) (n + 1) (n + 1), .int .i64 1024, .bool true] 56)).size = h2.size + 1 := by simp
    have k1 := k1.ext xo (by simp)
    have k2 := k2.ext xo (by simp)
    have x3 := (x1.nil_trans x2).nil_trans xo
    generalize h2.push (.cells #[.slice (pt (h.size + 1)) (n + 1) (n + 1), .slice none 0 0, .slice (pt h.size) (n + 1) (n + 1), .int .i64 1024, .bool true] 56) = h3 at *
    rw [s2] at ko so ⊢
    refine new_loop (ab := h.size + 1) (hb := h.size + 1 + 1) (pb := h.size) (Pl := zeros (n + 1)) hn (by simp) (fun w => g_zeros) (.inr ⟨rfl, [], [], none, ⟨by simpa using ko, k2, k1, by omega, by omega, by omega⟩⟩) (by omega) ?_
    intro h4 hb' rp x4 _
    have := x3.1
    refine hK _ _ ⟨_, _, rfl, rp, x3.trans x4 ?_, ?_⟩
    · intro b hb; simp at hb; omega
    · intro b hb; simp at hb; omega

theorem new_bad (a : Int) (ha : a < 0 ∨ a > 1048576) (h : Heap) : callT Try.prog fn_order_New #[.int .i64 a] (.tup (.cons .ptr (.cons (.int .i64) .nil))) (fun x h' => x = (none, 2, ()) ∧ h' = h) h := by
  refine callT_gen fun K hK => ?_
  apply S_order_New
  unfold F_order_New
  by_cases h1 : a < 0
  · simp only [h1, decide_true, brB_true]; exact hK _ _ ⟨rfl, rfl⟩
  · have h2 : a > 1048576 := by omega
    simp only [h1, h2, decide_true, decide_false, brB_true, brB_false]; exact hK _ _ ⟨rfl, rfl⟩

end Go.Proofs.Ord

/-
  The list of what All hands over.
-/
set_option linter.unusedVariables false
set_option linter.unusedSimpArgs false
set_option linter.unusedSectionVars false
namespace Go.Proofs.Ord
open Go Go.Sx Go.Proofs

abbrev fsts (pre : List (Int × Unit)) : List Int := pre.map (·.1)

/-- Where the list stands. -/
structure ListAt (h : Heap) (pre : List (Int × Unit)) (B : List Nat) (h' : Heap) (sb : Nat) (s : Sl) : Prop where
  eB : B = [h.size, h.size + 1, h.size + 2, sb]
  k0 : Blk h' h.size 35 [.slice none 0 0]
  k1 : Blk h' (h.size + 1) 4 [.bool false]
  k2 : Blk h' (h.size + 2) 35 [.slice s.a s.len s.cap]
  ks : (ISl h' sb (fsts pre) s ∧ h.size + 4 ≤ sb) ∨ (pre = [] ∧ s.len = 0 ∧ s.cap = 0 ∧ sb = h.size)
  x : Ext [] h h'
  sz : h.size + 4 ≤ h'.size

theorem ListAt.ext {h h1 h2 : Heap} {pre : List (Int × Unit)} {B T : List Nat} {sb : Nat} {s : Sl} (l : ListAt h pre B h1 sb s) (he : Ext T h1 h2) (hT : ∀ t ∈ T, t ∉ B ∧ h.size ≤ t) : ListAt h pre B h2 sb s := by
  have nin : ∀ b, b ∈ B → b ∉ T := fun b hb ht => (hT b ht).1 hb
  have eB := l.eB
  subst eB
  refine ⟨rfl, l.k0.ext he (nin _ (by simp)), l.k1.ext he (nin _ (by simp)), l.k2.ext he (nin _ (by simp)), ?_, l.x.trans he fun b hb => .inr (hT b hb).2, Nat.le_trans l.sz he.1⟩
  rcases l.ks with ⟨⟨rest, e, hb⟩, h4⟩ | hh
  · exact .inl ⟨⟨rest, e, hb.ext he (nin _ (by simp))⟩, h4⟩
  · exact .inr hh

theorem list_c {h : Heap} {S : List Nat} {o n : Nat} {act : List Int} {step : Int} {L : List Int} (r : Rep h S o n act step L) (hn : n ≤ 5000) :
    callT Try.prog fn_salvorlaw11_list #[.pointer (pt o)] (.tup (.cons .sl (.cons .bool .nil)))
      (fun x h' => ∃ s b, x = (s, true, ()) ∧ ISl0 h' b L s ∧ h.size ≤ b ∧ b < h'.size ∧ Ext [] h h') h := by
  refine callT_gen fun K hK => ?_
  apply S_salvorlaw11_list
  unfold F_salvorlaw11_list
  simp only [nw_eq]
  have x1 := (Ext.refl [] h).push (.cells #[.slice none 0 0] 35)
  have k0 := Blk.new h 35 #[.slice none 0 0]
  have s1 : (h.push (.cells #[.slice none 0 0] 35)).size = h.size + 1 := by simp
  generalize h.push (.cells #[.slice none 0 0] 35) = h1 at *
  have x2 := x1.push (.cells #[.bool false] 4)
  have k1 := Blk.new h1 4 #[.bool false]
  have k0 := k0.push (.cells #[.bool false] 4)
  have s2 : (h1.push (.cells #[.bool false] 4)).size = h.size + 2 := by simp [s1]
  rw [s1] at k1 ⊢
  generalize h1.push (.cells #[.bool false] 4) = h2 at *
  have x3 := x2.push (.cells #[.slice none 0 0] 35)
  have k2 := Blk.new h2 35 #[.slice none 0 0]
  have k0 := k0.push (.cells #[.slice none 0 0] 35)
  have k1 := k1.push (.cells #[.slice none 0 0] 35)
  have s3 : (h2.push (.cells #[.slice none 0 0] 35)).size = h.size + 3 := by simp [s2]
  rw [s2] at k2 ⊢
  generalize h2.push (.cells #[.slice none 0 0] 35) = h3 at *
  refine call_of (all_c o h3) ?_
  rintro fv h4 ⟨rfl, rfl⟩
  have x4 := x3.push (.cells #[.pointer (pt o)] 24)
  have kc := Blk.new h3 24 #[.pointer (pt o)]
  have k0 := k0.push (.cells #[.pointer (pt o)] 24)
  have k1 := k1.push (.cells #[.pointer (pt o)] 24)
  have k2 := k2.push (.cells #[.pointer (pt o)] 24)
  have s4 : (h3.push (.cells #[.pointer (pt o)] 24)).size = h.size + 4 := by simp [s3]
  rw [s3] at kc ⊢
  generalize h3.push (.cells #[.pointer (pt o)] 24) = h4 at *
  have at0 : ListAt h [] [h.size, h.size + 1, h.size + 2, h.size] h4 h.size ⟨none, 0, 0⟩ := ⟨rfl, k0, k1, k2, .inr ⟨rfl, rfl, rfl, rfl⟩, x4, by omega⟩
  have rep4 := r.ext x4 (by simp)
  have hL := r.len
  refine ⟨_, _, [], [], by simp, fun h5 hn5 => all_iter (rep4.ext hn5.1 (by simp)) (kc.ext hn5.1 (by simp)),
    fun pre B h' => (∃ r, fsts pre ++ r = L) ∧ ∃ sb s, ListAt h pre B h' sb s, fun _ _ _ => False, _, ?_, ?_, ?_, ⟨⟨L, rfl⟩, _, _, at0⟩, ?_, ?_, ?_, trivial⟩
  · intro b hb; simp at hb; simp; omega
  · rintro pre B h1' h2' T ⟨hr, sb, s, l⟩ he hT
    exact ⟨hr, sb, s, l.ext he fun t ht => ⟨(hT t ht).1, (hT t ht).2.elim (fun k => by omega) (fun k => by cases k)⟩⟩
  · intro j B h1' h2' T hf; exact hf.elim
  · rintro pre x B h' N ⟨⟨rr, hr⟩, rfl⟩ hN ⟨_, sb, s, l⟩ h6 hoff
    have eB := l.eB
    subst eB
    have k0 := l.k0.off hoff
    have k1 := l.k1.off hoff
    have k2 := l.k2.off hoff
    have ks : (ISl h6 sb (fsts pre) s ∧ h.size + 4 ≤ sb) ∨ (pre = [] ∧ s.len = 0 ∧ s.cap = 0 ∧ sb = h.size) := by
      rcases l.ks with ⟨⟨rest, e, hb⟩, h4⟩ | hh
      · exact .inl ⟨⟨rest, e, hb.off hoff⟩, h4⟩
      · exact .inr hh
    have x6 := l.x.off hoff (by omega)
    simp only [ld_sl (i := 0) k2 rfl, nw_eq]
    have x7 := x6.push (.cells #[.int .i64 x.1] 3)
    have xx := (Ext.refl [] h6).push (.cells #[.int .i64 x.1] 3)
    have kb := Blk.new h6 3 #[.int .i64 x.1]
    have k0 := k0.ext xx (by simp)
    have k1 := k1.ext xx (by simp)
    have k2 := k2.ext xx (by simp)
    have s7 : (h6.push (.cells #[.int .i64 x.1] 3)).size = h6.size + 1 := by simp
    have ks : ISl0 (h6.push (.cells #[.int .i64 x.1] 3)) sb (fsts pre) s ∧ (0 < s.cap → h.size + 4 ≤ sb) := by
      rcases ks with ⟨⟨rest, e, hb⟩, h4⟩ | ⟨e1, e2, e3, e4⟩
      · exact ⟨.inl ⟨rest, e, hb.ext xx (by simp)⟩, fun _ => h4⟩
      · exact ⟨.inr ⟨by rw [e1]; rfl, e2, e3⟩, fun h => by omega⟩
    obtain ⟨ks, hcap⟩ := ks
    have lt2 := k2.lt
    have lth : h'.size = h6.size := hoff.1.symm
    have hpl : (fsts pre).length + 1 ≤ 5000 := by
      have := congrArg List.length hr
      simp at this ⊢; omega
    generalize h6.push (.cells #[.int .i64 x.1] 3) = h7 at *
    refine apd_ok ks kb (by omega) ?_
    rintro s' h8 b' is8 hwh
    have b8 : h.size + 4 ≤ b' := by
      have h43 := l.sz
      rcases hwh with ⟨rfl, _, hc⟩ | ⟨rfl, _⟩
      · exact hcap hc
      · omega
    have hx8 : Ext [sb] h7 h8 := by
      rcases hwh with ⟨_, hx, _⟩ | ⟨_, hx⟩
      · exact hx
      · exact hx.mono (by simp)
    have sbk : ∀ b, b ∈ [h.size, h.size + 1, h.size + 2] → ∀ t c, Blk h7 b t c → Blk h8 b t c := by
      intro b hb t c hk
      rcases hwh with ⟨e, hx, hc⟩ | ⟨_, hx⟩
      · have := hcap hc; refine hk.ext hx ?_; simp at hb ⊢; omega
      · exact hk.ext hx (by simp)
    have k0 := sbk _ (by simp) _ _ k0
    have k1 := sbk _ (by simp) _ _ k1
    have k2 := sbk _ (by simp) _ _ k2
    have x8 : Ext [] h h8 := x7.trans (S' := if 0 < s.cap then [sb] else []) (by
      rcases hwh with ⟨_, hx, hc⟩ | ⟨_, hx⟩
      · rw [if_pos hc]; exact hx
      · exact hx.mono (by simp)) (by
      intro b hb
      split at hb
      · rename_i hc; have := hcap hc; simp at hb; exact .inr (by omega)
      · cases hb)
    rw [st_ok k2 (by simp)]
    have xs := (Ext.refl [h.size + 2] h8).set ⟨h.size + 2, 0, none⟩ (.slice s'.a s'.len s'.cap) (by simp)
    have k0 := k0.ext xs (by simp)
    have k1 := k1.ext xs (by simp)
    have k2 := k2.set 0 (.slice s'.a s'.len s'.cap)
    have x9 := x8.trans xs (by intro b hb; simp at hb; exact .inr (by omega))
    obtain ⟨rest, rfl, hb8⟩ := is8
    have hb9 := hb8.ext xs (by simp; omega)
    have z7 := hx8.1
    have z9 := xs.1
    generalize setC h8 ⟨h.size + 2, 0, none⟩ (.slice (pt b') (fsts pre ++ [x.1]).length ((fsts pre ++ [x.1]).length + rest.length)) = h9 at *
    rw [ld_sl (i := 0) k2 rfl]
    have e5 : decide ((((fsts pre ++ [x.1]).length : Nat) : Int) > 5000) = false := by simp at hpl ⊢; omega
    simp only [e5, brB_false]
    have ef : fsts (pre ++ [x]) = fsts pre ++ [x.1] := by simp
    refine ⟨[h.size, h.size + 1, h.size + 2, b'], ⟨?_, ?_⟩, ?_, ⟨rr, by rw [ef, ← hr]; simp⟩, b', _, ⟨rfl, k0, k1, k2, .inl ⟨⟨rest, by rw [ef], by rw [ef]; exact hb9⟩, b8⟩, x9, ?_⟩⟩
    · intro b hb
      simp at hb ⊢
      rcases hwh with ⟨e, _⟩ | ⟨e, _⟩ <;> omega
    · intro b hb
      have l9 := hb9.lt
      simp at hb
      rcases hb with rfl | rfl | rfl | rfl
      · exact .inl (by simp)
      · exact .inl (by simp)
      · exact .inl (by simp)
      · exact .inr l9
    · refine round_done (S := [sb, h.size + 2]) hoff (((xx.mono (S' := [sb, h.size + 2]) (by simp)).trans hx8 (by intro b hb; simp at hb ⊢; omega)).trans xs (by intro b hb; simp at hb ⊢; omega)) (by intro b hb; simp at hb ⊢; omega)
    · have := l.sz; omega
  · rintro pre B h' hf ⟨_, sb, s, l⟩
    have eB := l.eB
    subst eB
    simp only [ld_sl (i := 0) l.k2 rfl]
    have lt2 := l.k2.lt
    rw [st_ok l.k0 (by simp)]
    have xa := (Ext.refl [h.size] h').set ⟨h.size, 0, none⟩ (.slice s.a s.len s.cap) (by simp)
    have k0 := l.k0.set 0 (.slice s.a s.len s.cap)
    have k1 := l.k1.ext xa (by simp)
    have ks : (ISl (setC h' ⟨h.size, 0, none⟩ (.slice s.a s.len s.cap)) sb (fsts pre) s ∧ h.size + 4 ≤ sb) ∨ (pre = [] ∧ s.len = 0 ∧ s.cap = 0 ∧ sb = h.size) := by
      rcases l.ks with ⟨⟨rest, e, hb⟩, h4⟩ | hh
      · exact .inl ⟨⟨rest, e, hb.ext xa (by simp; omega)⟩, h4⟩
      · exact .inr hh
    have x2 := l.x.trans xa (by intro b hb; simp at hb; exact .inr (by omega))
    have za := xa.1
    generalize setC h' ⟨h.size, 0, none⟩ (.slice s.a s.len s.cap) = ha at *
    rw [st_ok k1 (by simp)]
    have xb := (Ext.refl [h.size + 1] ha).set ⟨h.size + 1, 0, none⟩ (.bool true) (by simp)
    have k0 := k0.ext xb (by simp)
    have k1 := k1.set 0 (.bool true)
    have ks : (ISl (setC ha ⟨h.size + 1, 0, none⟩ (.bool true)) sb (fsts pre) s ∧ h.size + 4 ≤ sb) ∨ (pre = [] ∧ s.len = 0 ∧ s.cap = 0 ∧ sb = h.size) := by
      rcases ks with ⟨⟨rest, e, hb⟩, h4⟩ | hh
      · exact .inl ⟨⟨rest, e, hb.ext xb (by simp; omega)⟩, h4⟩
      · exact .inr hh
    have x3 := x2.trans xb (by intro b hb; simp at hb; exact .inr (by omega))
    have zb := xb.1
    generalize setC ha ⟨h.size + 1, 0, none⟩ (.bool true) = hb at *
    intro hm hmk
    have k0 := k0.marked hmk
    have k1 := k1.marked hmk
    rw [ld_sl (i := 0) k0 rfl, ld_bool (i := 0) k1 rfl]
    have x4 := x3.marked hmk
    have zm := hmk.1
    refine hK _ _ ?_
    have hf : fsts pre = L := hf
    rcases ks with ⟨⟨rest, e, hbk⟩, h4⟩ | ⟨e1, e2, e3, e4⟩
    · have := (hbk.marked hmk).lt
      exact ⟨_, sb, rfl, .inl ⟨rest, by rw [← hf]; exact e, by rw [← hf]; exact hbk.marked hmk⟩, by omega, this, x4⟩
    · exact ⟨_, h.size, rfl, .inr ⟨by rw [← hf, e1]; rfl, e2, e3⟩, by omega, by omega, x4⟩
  · intro B h' hf; exact hf.elim

end Go.Proofs.Ord
