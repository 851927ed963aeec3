/-
  CrashParts, walked.
-/
import Derived.Test.YtchedlkmgahicaaCrW2
set_option linter.unusedVariables false
set_option linter.unusedSimpArgs false
namespace Go.Proofs.S
open Go Go.Sx Go.Proofs Go.Cr Go.Cl

variable {h : Heap} {l a b : List Ent} {k k2 : List Bool} {m m2 : List Int} {s s2 s3 : Sl} {fr : Fr} {G As : List Asn}

/-! ### two parts -/

def shiftE (b : List Ent) (d : Int) : List Ent := b.map fun x => (x.1, x.2.1, x.2.2.1 + d, ())
theorem shift_len (b : List Ent) (d : Int) : (shiftE b d).length = b.length := by simp [shiftE]
theorem shift_E {d : Int} {i : Nat} (hi : i < b.length) : E (shiftE b d) i = E b i + d := by
  rw [E_get (by rw [shift_len]; exact hi), E_get hi]; simp [shiftE]
theorem shift_vld (b : List Ent) (d : Int) (k : List Bool) : vld (shiftE b d) k = vld b k := by
  rw [Bool.eq_iff_iff, vld_iff, vld_iff]
  unfold Needs
  rw [shift_len]
  constructor
  · intro h i hi hk j hj hlt
    exact h i hi hk j hj (by rw [shift_E hi, shift_E hj]; omega)
  · intro h i hi hk j hj hlt
    rw [shift_E hi, shift_E hj] at hlt
    exact h i hi hk j hj (by omega)
theorem shift_valids (b : List Ent) (d : Int) : valids (shiftE b d) = valids b := by
  unfold valids
  rw [shift_len]
  exact List.filter_congr fun k _ => shift_vld b d k
theorem shift_apply : ∀ (b : List Ent) (d : Int) (m : List Int) (k : List Bool), applyP m (shiftE b d) k = applyP m b k
  | [], d, m, k => rfl
  | x :: b, d, m, [] => rfl
  | x :: b, d, m, c :: k => by
    show applyP (if c then m.set x.1.toNat x.2.1 else m) (shiftE b d) k = applyP (if c then m.set x.1.toNat x.2.1 else m) b k
    exact shift_apply b d _ k

theorem madeGo_mem : ∀ {l : List Int} {e : Int}, U8 l → ∀ x ∈ madeGo e l, 0 ≤ x.1 ∧ x.1 < 3 ∧ 0 ≤ x.2.1 ∧ x.2.1 < 16 ∧ e ≤ x.2.2.1 ∧ x.2.2.1 ≤ e + l.length
  | [], _, _, x, hx => by cases hx
  | n :: l, e, h, x, hx => by
    have hn := h n (by simp)
    rcases List.mem_cons.1 hx with rfl | hx
    · simp only [List.length_cons]
      refine ⟨by omega, by omega, by omega, by omega, ?_, ?_⟩ <;> split <;> omega
    · have := madeGo_mem (fun y hy => h y (by simp [hy])) x hx
      simp only [List.length_cons]
      split at this <;> omega
theorem madeL_mem {c : List Int} {most : Nat} (h : U8 c) : ∀ x ∈ madeL c most, 0 ≤ x.1 ∧ x.1 < 3 ∧ 0 ≤ x.2.1 ∧ x.2.1 < 16 ∧ 0 ≤ x.2.2.1 ∧ x.2.2.1 ≤ most := by
  intro x hx
  have := madeGo_mem (fun y hy => h y (List.mem_of_mem_take hy)) x hx
  rw [List.length_take] at this
  omega

/-- The barrier. -/
def barE (a : List Ent) : Int := if a.length = 0 then 0 else E a (a.length - 1) + 1
theorem bar_lt (hm : Mono a) {d : Int} (hd : d = barE a) (hb0 : ∀ x ∈ b, 0 ≤ x.2.2.1) (i j : Nat) (hi : i < a.length) (hj : j < (shiftE b d).length) : E a i < E (shiftE b d) j := by
  rw [shift_len] at hj
  rw [shift_E hj, hd, barE, if_neg (by omega)]
  have h1 := hm i (a.length - 1) (by omega) (by omega)
  have h2 : 0 ≤ E b j := by rw [E_get hj]; exact hb0 _ (List.getElem_mem hj)
  omega
theorem parts_right (ha : rightL a = true) (hb : rightL b = true) (hl : a.length + b.length ≤ 4096) (ha0 : ∀ x ∈ a, 0 ≤ x.2.2.1) : rightL (a ++ shiftE b (barE a)) = true := by
  have hm := right_mono ha
  simp only [rightL, Bool.and_eq_true, decide_eq_true_eq, rightGo_iff] at ha hb ⊢
  have hbar : 0 ≤ barE a := by
    unfold barE
    split
    · exact Int.le_refl _
    · rename_i h0
      have := ha0 _ (List.getElem_mem (show a.length - 1 < a.length by omega))
      rw [E_get (by omega)]; omega
  refine ⟨⟨?_, ?_⟩, by rw [List.length_append, shift_len]; omega⟩
  · intro x hx
    rcases List.mem_append.1 hx with hx | hx
    · exact ha.1.1 x hx
    · obtain ⟨y, hy, rfl⟩ := List.mem_map.1 hx
      have := hb.1.1 y hy
      exact ⟨this.1, this.2.1, by show 0 ≤ y.2.2.1 + barE a; omega⟩
  · refine List.pairwise_append.2 ⟨ha.1.2, List.pairwise_map.2 (hb.1.2.imp fun {x y} h => by show x.2.2.1 + _ ≤ y.2.2.1 + _; omega), fun x hx y hy => ?_⟩
    obtain ⟨i, hi, rfl⟩ := List.mem_iff_getElem.1 hx
    obtain ⟨j, hj, rfl⟩ := List.mem_iff_getElem.1 hy
    have := bar_lt (b := b) hm rfl (fun z hz => (hb.1.1 z hz).2.2) i j hi hj
    rw [E_get hi, E_get hj] at this
    omega

theorem Hs.clone_ent {K : Sl → HP} (st : Hs fr G As h) (hy : At h (le l s)) (hlen : l.length ≤ 1048576) (hK : ∀ s' h', Hs fr G (As ++ [oe l s']) h' → K s' h') :
    callT Try.prog fn_slices_Clone_disk_Entry_disk_Entry #[.slice s.a s.len s.cap] .sl K h :=
  S_slices_Clone_disk_Entry_disk_Entry (a0 := s) K (st.cloneN (by_ := 24) (t := ty_disk_Entry) wideE (by decide) hy (fun x u hu => by
    simp only [Ty.vals, Ty.ev, List.mem_cons, List.not_mem_nil, or_false] at hu
    rcases hu with rfl | rfl | rfl <;> rfl) (by omega) (by decide) rfl hK)

theorem leafE (x : Ent) : ∀ u ∈ tE.vals x, leafB u = true := fun u hu => by
  simp only [Ty.vals, Ty.ev, List.mem_cons, List.not_mem_nil, or_false] at hu
  rcases hu with rfl | rfl | rfl <;> rfl

theorem crashParts_F {c c2 : List Int} {s2 : Sl} (hA : At h (lu c s)) (hA2 : At h (lu c2 s2)) (hu : U8 c) (hu2 : U8 c2) (K : Bool → HP) (hK : ∀ x h', (x = true ∧ Ext [] h h') → K x h') : F_salvorlaw35_CrashParts s s2 K h := by
  unfold F_salvorlaw35_CrashParts
  have st := Hs.start h [lu c s, lu c2 s2] (by simp [hA, hA2])
  refine st.nw fun b0 h1 st => ?_
  refine call_of awake_c ?_
  rintro _ h2 ⟨rfl, x2⟩
  have st := st.ext x2
  simp only [Bool.not_true, brB_false]
  refine call_of (made_c (most := 7) (st.fz 0 rfl) hu (by decide)) ?_
  rintro r3 h3 ⟨n3, x3⟩
  have st := st.new x3 n3
  simp only [List.nil_append, List.cons_append] at st
  have st := (st.imp 1 rfl (A' := le (madeL c 7) r3) fun S h q => osn_rsn wideE q).freeze 1 rfl
  simp only [List.nil_append, List.cons_append, List.set_cons_zero, List.set_cons_succ, List.eraseIdx_cons_zero, List.eraseIdx_cons_succ] at st
  refine call_of (made_c (most := 7) (st.fz 1 rfl) hu2 (by decide)) ?_
  rintro r4 h4 ⟨n4, x4⟩
  have st := st.new x4 n4
  simp only [List.nil_append, List.cons_append] at st
  have st := (st.imp 1 rfl (A' := le (madeL c2 7) r4) fun S h q => osn_rsn wideE q).freeze 1 rfl
  simp only [List.nil_append, List.cons_append, List.set_cons_zero, List.set_cons_succ, List.eraseIdx_cons_zero, List.eraseIdx_cons_succ] at st
  have ra := madeL_right hu (most := 7) (by decide)
  have rb := madeL_right hu2 (most := 7) (by decide)
  have la : (madeL c 7).length ≤ 7 := by rw [madeL_len]; omega
  have lb' : (madeL c2 7).length ≤ 7 := by rw [madeL_len]; omega
  have ma := madeL_mem (most := 7) hu
  have mb := madeL_mem (most := 7) hu2
  clear n3 n4
  generalize madeL c 7 = a at *
  generalize madeL c2 7 = b at *
  have hma := right_mono ra
  refine st.nw fun b5 h5 st => ?_
  refine st.nw fun b6 h6 st => ?_
  simp only [List.nil_append, List.cons_append] at st
  refine st.st1 1 0 rfl (by simp) fun h7 st => ?_
  refine st.st1 2 0 rfl (by simp) fun h8 st => ?_
  simp only [List.set_cons_zero, List.set_cons_succ] at st
  rw [st.lds 1 0 rfl rfl]
  have l3 := rsn_len (st.fz 2 rfl)
  have l4 := rsn_len (st.fz 3 rfl)
  refine jn_mid (fun σ h' => σ = (barE a, ()) ∧ h' = h8) ?_ ?_
  rotate_left
  · intro J hJ
    by_cases h0 : a.length = 0
    · rw [decide_eq_false (show ¬ ((⟨r3.a, r3.len, r3.cap⟩ : Sl).len : Int) > 0 by simp only; omega), brB_false]
      exact hJ _ _ ⟨by rw [barE, if_pos h0], rfl⟩
    · rw [decide_eq_true (show ((⟨r3.a, r3.len, r3.cap⟩ : Sl).len : Int) > 0 by simp only; omega), brB_true, st.lds 1 0 rfl rfl, st.lds 1 0 rfl rfl]
      have e : IntKind.wrap .i64 ((r3.len : Int) - 1) = ((a.length - 1 : Nat) : Int) := by rw [wrap_i64 (by omega) (by omega)]; omega
      simp only
      rw [e]
      refine rdEp (st.fz 2 rfl) (show a.length - 1 < a.length by omega) ?_
      have hE := ma _ (List.getElem_mem (show a.length - 1 < a.length by omega))
      rw [← E_get (show a.length - 1 < a.length by omega)] at hE
      rw [wrap_i64 (by omega) (by omega)]
      exact hJ _ _ ⟨by rw [barE, if_neg h0], rfl⟩
  rintro σ h9 ⟨rfl, rfl⟩
  simp only
  have hbar : 0 ≤ barE a ∧ barE a ≤ 8 := by
    unfold barE
    split
    · omega
    · have hE := ma _ (List.getElem_mem (show a.length - 1 < a.length by omega))
      rw [← E_get (show a.length - 1 < a.length by omega)] at hE
      omega
  have rc := parts_right ra rb (by omega) (fun x hx => (ma x hx).2.2.2.2.1)
  have hsep := fun i j hi hj => bar_lt (b := b) hma rfl (fun x hx => (mb x hx).2.2.2.2.1) i j hi hj
  have hcnt := count_app (a := a) (b := shiftE b (barE a)) hsep
  rw [shift_valids] at hcnt
  generalize hd : barE a = d at *
  rw [st.lds 1 0 rfl rfl]
  refine Hs.clone_ent st (st.fz 2 rfl) (by omega) fun r11 h10 st => ?_
  refine st.nw fun b12 h11 st => ?_
  simp only [List.nil_append, List.cons_append] at st
  refine st.st1 4 0 rfl (by simp) fun h12 st => ?_
  simp only [List.set_cons_zero, List.set_cons_succ] at st
  rw [st.lds 2 0 rfl rfl]
  have sl := shift_len b d
  refine lfp_invh (I := fun μ σ h' => ∃ (i : Nat) (s' : Sl), σ = ((i : Int), ()) ∧ i ≤ b.length ∧ Hs [([], h)] [lu c s, lu c2 s2, le a r3, le b r4]
      [cl b0 ty_bool [.bool false], cl b5 ty_sl_disk_Entry [.slice r3.a r3.len r3.cap], cl b6 ty_sl_disk_Entry [.slice r4.a r4.len r4.cap], oe (a ++ (shiftE b d).take i) s', cl b12 ty_sl_disk_Entry [.slice s'.a s'.len s'.cap]] h' ∧ μ = b.length - i)
    ⟨_, 0, r11, rfl, by omega, by simpa using st, rfl⟩ ?_
  clear st
  rintro μ σ h13 X ⟨i, s', rfl, hi, st, em⟩ hX
  simp only
  by_cases hlt : i < b.length
  · rw [decide_eq_true (show (i : Int) < (r4.len : Int) by omega), brB_true, inc_i (show i < 4611686018427387904 by omega)]
    refine Hs.rdEnt st (st.fz 3 rfl) hlt fun b18 h14 st => ?_
    simp only [addr_add, Nat.zero_add, List.nil_append, List.cons_append] at st ⊢
    have hE := mb _ (List.getElem_mem hlt)
    rw [st.ldi 5 2 rfl rfl, wrap_i64 (x := b[i].2.2.1 + d) (by omega) (by omega)]
    refine st.st1 5 2 rfl (by simp) fun h15 st => ?_
    simp only [List.set_cons_zero, List.set_cons_succ] at st
    rw [st.lds 4 0 rfl rfl]
    refine ldRow (τ := tE) (x := ((b[i].1, b[i].2.1, b[i].2.2.1 + d, ()) : Ent)) (st.blk 5 rfl) ?_
    refine st.nw fun b22 h16 st => ?_
    simp only [List.nil_append, List.cons_append] at st
    refine Hs.apdN (v := ((b[i].1, b[i].2.1, b[i].2.2.1 + d, ()) : Ent)) st wideE (by decide) 3 6 rfl rfl (by decide) (leafE _) (by rw [List.length_append, List.length_take, sl]; omega) (by decide) rfl fun s23 h17 st => ?_
    refine st.st1 4 0 rfl (by simp) fun h18 st => ?_
    have st := (st.drop 6 rfl).drop 5 rfl
    refine hX _ _ _ ⟨i + 1, s23, rfl, by omega, ?_, rfl⟩ (by omega)
    have e : a ++ (shiftE b d).take (i + 1) = a ++ (shiftE b d).take i ++ [((b[i].1, b[i].2.1, b[i].2.2.1 + d, ()) : Ent)] := by
      rw [take_succ_getE (by rw [sl]; exact hlt), List.append_assoc]; simp [shiftE]
    rw [e]; exact st
  rw [decide_eq_false (show ¬ (i : Int) < (r4.len : Int) by omega), brB_false]
  rw [List.take_of_length_le (by rw [sl]; omega)] at st
  clear hX hlt hi em X
  have st := (st.imp 3 rfl (A' := le (a ++ shiftE b d) s') fun S h q => osn_rsn wideE q).freeze 3 rfl
  simp only [List.nil_append, List.cons_append, List.set_cons_zero, List.set_cons_succ, List.eraseIdx_cons_zero, List.eraseIdx_cons_succ] at st
  have lc : (a ++ shiftE b d).length = a.length + b.length := by rw [List.length_append, sl]
  have va2 := Nat.le_trans (valids_le a) (Nat.pow_le_pow_right (by decide) la)
  have vb2 := Nat.le_trans (valids_le b) (Nat.pow_le_pow_right (by decide) lb')
  have e7 : (2 : Nat) ^ 7 = 128 := by decide
  rw [e7] at va2 vb2
  have ecnt : ∀ (l : List Ent), rightL l = true → (valids l).length ≤ 1000 → (((countP l).1, (countP l).2, ()) : Int × Int × Unit) = (((valids l).length : Int), 0, ()) := fun l hr hv => by
    simp only [countP, hr, if_true]
    unfold cntP
    rw [Nat.min_eq_left (by omega)]
  rw [st.lds 1 0 rfl rfl]
  refine call_of (count_c (st.fz 2 rfl) (by omega)) ?_
  rintro r h14 ⟨er, x14⟩
  rw [ecnt a ra (by omega)] at er
  subst er
  have st := st.ext x14
  rw [st.lds 2 0 rfl rfl]
  refine call_of (count_c (st.fz 3 rfl) (by omega)) ?_
  rintro r h15 ⟨er, x15⟩
  rw [ecnt b rb (by omega)] at er
  subst er
  have st := st.ext x15
  rw [st.lds 3 0 rfl rfl]
  refine call_of (count_c (st.fz 4 rfl) (by omega)) ?_
  rintro r h16 ⟨er, x16⟩
  rw [ecnt _ rc (by omega)] at er
  subst er
  have st := st.ext x16
  change brB false _ _ _
  rw [brB_false]
  have hva := valids_pos a
  have hvb := valids_pos b
  rw [show (((valids (a ++ shiftE b d)).length : Int) != IntKind.wrap .i64 (IntKind.wrap .i64 (((valids a).length : Int) + ((valids b).length : Int)) - 1)) = false by
    rw [wrap_i64 (x := ((valids a).length : Int) + ((valids b).length : Int)) (by omega) (by omega), wrap_i64 (by omega) (by omega)]; simp; omega, brB_false]
  have chk : ∀ (l : List Ent) (z : List Bool), rightL l = true → z.length = l.length → checkC l z = 0 := fun l z hr hz => by simp [checkC, hr, hz]
  have eLa : allL a = valids a := by simp [allL, ra]
  have eLb : allL b = valids b := by simp [allL, rb]
  refine st.nw fun b32 h17 st => ?_
  simp only [List.nil_append, List.cons_append] at st
  refine st.st1 4 0 rfl (by simp) fun h18 st => ?_
  simp only [List.set_cons_zero, List.set_cons_succ] at st
  rw [st.lds 1 0 rfl rfl]
  refine Hs.All st fun bA h19 st => ?_
  simp only [List.nil_append, List.cons_append] at st
  refine st.rangeG (allNx a) (allGf a) (allFin a) (all_hit 5 2 rfl rfl (by omega)) (fun _ _ _ _ => rfl)
    (fun pre Bs => Bs = [cl b0 ty_bool [.bool false], cl b5 ty_sl_disk_Entry [.slice r3.a r3.len r3.cap], cl b6 ty_sl_disk_Entry [.slice r4.a r4.len r4.cap], cl b12 ty_sl_disk_Entry [.slice s'.a s'.len s'.cap], cl b32 ty_int [.int .i64 (pre.length : Int)]])
    (fun _ _ => False) rfl ?_ ?_ (fun _ _ hf => hf.elim) (fun i id K hi => by simp at hi)
  · rintro pre ⟨x, ⟨⟩⟩ Bs B hb hnx rfl st next jump hnext hjump
    have hlt : pre.length < (valids a).length := by rw [← eLa]; exact hnx
    have eg : allGf a pre (x, ()) = ob (valids a)[pre.length] x := by
      show ob ((allL a).getD pre.length []) x = _
      rw [eLa, List.getD_eq_getElem?_getD, List.getElem?_eq_getElem hlt]; rfl
    rw [eg] at st
    obtain ⟨hkl, hkv⟩ := mem_valids.1 (List.getElem_mem hlt)
    simp only [List.nil_append, List.cons_append] at st
    simp only
    rw [st.lds 2 0 rfl rfl]
    refine Hs.clone_bool st (st.own 5 rfl).rsl (by omega) fun r40 h20 st => ?_
    simp only [List.nil_append, List.cons_append] at st
    rw [st.ck 2 0 rfl rfl, l4]
    refine Hs.apz (τ := .bool) (xs := (valids a)[pre.length]) (s := r40) (z := false) st 6 rfl rfl (by omega) (by decide) fun s41 h21 st => ?_
    simp only [List.set_cons_zero, List.set_cons_succ] at st
    rw [st.lds 3 0 rfl rfl]
    refine call_of (Valid_c (k := (valids a)[pre.length] ++ List.replicate b.length false) (st.fz 4 rfl) (st.own 6 rfl).rsl (by omega)) ?_
    rintro r h22 ⟨er, x22⟩
    have er : r = (true, 0, ()) := by
      have hv : vld (a ++ shiftE b d) ((valids a)[pre.length] ++ List.replicate b.length false) = true := by
        rw [vld_iff, vld_app hkl (by simp [sl]) hsep]
        refine ⟨vld_iff.1 hkv, by have := none_valid (shiftE b d); rwa [sl] at this, ?_⟩
        rintro ⟨j, hj, hkj⟩
        unfold Cr.K at hkj; rw [List.getD_eq_getElem?_getD, List.getElem?_replicate] at hkj; split at hkj <;> cases hkj
      rw [er, validP, if_pos (chk _ _ rc (by rw [lc]; simp [hkl])), hv]
    subst er
    have st := st.ext x22
    simp only [Bool.not_true, brB_false]
    rw [show ((0 : Int) != 0) = false from rfl, brB_false, st.ldi 4 0 rfl rfl, show ((pre.length : Int) == 128) = false by rw [beq_eq_false_iff_ne]; omega, brB_false, st.ldi 4 0 rfl rfl, inc_i (show pre.length < 4611686018427387904 by omega)]
    refine st.st1 4 0 rfl (by simp) fun h23 st => ?_
    simp only [List.set_cons_zero, List.set_cons_succ] at st
    have st := (st.drop 6 rfl).drop 5 rfl
    refine hnext _ _ ?_ st
    simp
  · rintro pre Bs h20 hfin rfl st
    refine st.st1 4 0 rfl (by simp) fun h21 st => ?_
    simp only [List.set_cons_zero, List.set_cons_succ] at st
    rw [st.lds 2 0 rfl rfl]
    refine Hs.All st fun bB h22 st => ?_
    simp only [List.nil_append, List.cons_append] at st
    refine st.rangeG (allNx b) (allGf b) (allFin b) (all_hit 6 3 rfl rfl (by omega)) (fun _ _ _ _ => rfl)
      (fun pre Bs => Bs = [cl b0 ty_bool [.bool false], cl b5 ty_sl_disk_Entry [.slice r3.a r3.len r3.cap], cl b6 ty_sl_disk_Entry [.slice r4.a r4.len r4.cap], cl b12 ty_sl_disk_Entry [.slice s'.a s'.len s'.cap], cl b32 ty_int [.int .i64 (pre.length : Int)]])
      (fun _ _ => False) rfl ?_ ?_ (fun _ _ hf => hf.elim) (fun i id K hi => by simp at hi)
    · rintro pre ⟨x, ⟨⟩⟩ Bs B hb hnx rfl st next jump hnext hjump
      have hlt : pre.length < (valids b).length := by rw [← eLb]; exact hnx
      have eg : allGf b pre (x, ()) = ob (valids b)[pre.length] x := by
        show ob ((allL b).getD pre.length []) x = _
        rw [eLb, List.getD_eq_getElem?_getD, List.getElem?_eq_getElem hlt]; rfl
      rw [eg] at st
      obtain ⟨hkl, hkv⟩ := mem_valids.1 (List.getElem_mem hlt)
      generalize (valids b)[pre.length] = kb at *
      simp only [List.nil_append, List.cons_append] at st
      simp only
      rw [st.ldi 4 0 rfl rfl, inc_i (show pre.length < 4611686018427387904 by omega)]
      refine st.st1 4 0 rfl (by simp) fun h23 st => ?_
      simp only [List.set_cons_zero, List.set_cons_succ] at st
      rw [st.ldi 4 0 rfl rfl, decide_eq_false (show ¬ ((pre.length + 1 : Nat) : Int) > 128 by omega), brB_false]
      refine st.nw fun b54 h24 st => ?_
      have st := st.asSl 6 Ty.bool.enc [true] rfl rfl
      simp only [List.nil_append, List.cons_append, List.set_cons_zero, List.set_cons_succ] at st
      rw [st.lds 1 0 rfl rfl]
      refine Hs.repeat_true (s := ⟨some ⟨b54, 0, none⟩, 1, 1⟩) (n := r3.len) st (by omega) 6 rfl fun r56 h25 st => ?_
      simp only [List.nil_append, List.cons_append] at st
      have st := st.imp 7 rfl (A' := ob (List.replicate a.length true) r56) fun S h q => by rw [← l3]; exact q
      simp only [List.set_cons_zero, List.set_cons_succ] at st
      refine Hs.apdS (τ := .bool) (xs := List.replicate a.length true) (ys := kb) (s2 := x) st 7 rfl (st.own 5 rfl).rsl leaf_bool (by simp; omega) (by decide) fun s57 h26 st => ?_
      simp only [List.set_cons_zero, List.set_cons_succ] at st
      rw [st.lds 3 0 rfl rfl]
      have hwl : (List.replicate a.length true ++ kb).length = (a ++ shiftE b d).length := by rw [lc]; simp [hkl]
      refine call_of (Valid_c (k := List.replicate a.length true ++ kb) (st.fz 4 rfl) (st.own 7 rfl).rsl (by omega)) ?_
      rintro r h27 ⟨er, x27⟩
      have er : r = (true, 0, ()) := by
        have hv : vld (a ++ shiftE b d) (List.replicate a.length true ++ kb) = true := by
          rw [vld_iff, vld_app (by simp) (by rw [sl]; exact hkl) hsep]
          refine ⟨all_valid a, vld_iff.1 (by rw [shift_vld]; exact hkv), fun _ i hi => ?_⟩
          unfold Cr.K; rw [List.getD_eq_getElem?_getD, List.getElem?_replicate, if_pos hi]; rfl
        rw [er, validP, if_pos (chk _ _ rc hwl), hv]
      subst er
      have st := st.ext x27
      rw [st.lds 3 0 rfl rfl]
      refine Hs.mks1 (τ := u32) (n := 3) (z := 0) st (by decide) (by decide) fun s61 h28 st => ?_
      simp only [List.nil_append, List.cons_append] at st
      have hfit : ∀ (l : List Ent), (∀ x ∈ l, x.1 < 3) → fitsP 3 l = true := fun l hl => by
        unfold fitsP
        simp only [Bool.not_eq_true', List.any_eq_false, decide_eq_true_eq]
        intro x hx
        have := hl x hx
        show ¬ x.1 ≥ ((3 : Nat) : Int)
        omega
      have fa := hfit a fun x hx => (ma x hx).2.1
      have fb := hfit b fun x hx => (mb x hx).2.1
      have fc := hfit (a ++ shiftE b d) fun x hx => by
        rcases List.mem_append.1 hx with hx | hx
        · exact (ma x hx).2.1
        · obtain ⟨y, hy, rfl⟩ := List.mem_map.1 hx
          exact (mb y hy).2.1
      refine call_of (Apply_c (m := List.replicate 3 0) (k := List.replicate a.length true ++ kb) (st.fz 4 rfl) (st.own 7 rfl).rsl (st.own 8 rfl).rsl (by omega) (by simp)) ?_
      rintro r h29 ⟨s62, er, n62, x29⟩
      have eap : applyC (List.replicate 3 0) (a ++ shiftE b d) (List.replicate a.length true ++ kb) = (applyP (applyP (List.replicate 3 0) a (List.replicate a.length true)) b kb, 0) := by
        unfold applyC
        rw [if_pos (chk _ _ rc hwl), if_pos (by simpa using fc), applyP_app _ _ _ _ _ (by simp), shift_apply]
      rw [eap] at er n62
      subst er
      have st := st.new x29 n62
      simp only [List.nil_append, List.cons_append] at st
      rw [st.lds 1 0 rfl rfl, st.lds 1 0 rfl rfl]
      -- what is left, in whatever order the rows were laid
      have tail : ∀ (sw rt : Sl) (Bs : List Asn) (h' : Heap) (iw it : Nat), Hs ((B, hb) :: [([], h)]) [lu c s, lu c2 s2, le a r3, le b r4, le (a ++ shiftE b d) s', cA bA { a := r3.a, len := r3.len, cap := r3.cap }, cA bB { a := r4.a, len := r4.len, cap := r4.cap }]
          ([cl b0 ty_bool [.bool false], cl b5 ty_sl_disk_Entry [.slice r3.a r3.len r3.cap], cl b6 ty_sl_disk_Entry [.slice r4.a r4.len r4.cap], cl b12 ty_sl_disk_Entry [.slice s'.a s'.len s'.cap], cl b32 ty_int [.int .i64 ((pre.length + 1 : Nat) : Int)]] ++ ([ob kb x, ow (applyP (applyP (List.replicate 3 0) a (List.replicate a.length true)) b kb) s62] ++ Bs)) h' →
          Bs[iw]? = some (ow (List.replicate 3 0) sw) → Bs[it]? = some (ob (List.replicate a.length true) rt) →
          (callT Try.prog fn_crash_Apply #[(.slice sw.a sw.len sw.cap), (.slice r3.a r3.len r3.cap), (.slice rt.a rt.len rt.cap)] (.tup (.cons .sl (.cons (.int .i64) .nil))) fun r68 =>
            ldT .sl (⟨b6, 0, none⟩ : Addr) fun x69 =>
            callT Try.prog fn_crash_Apply #[(.slice r68.1.a r68.1.len r68.1.cap), (.slice x69.a x69.len x69.cap), (.slice x.a x.len x.cap)] (.tup (.cons .sl (.cons (.int .i64) .nil))) fun r70 =>
            brB (!true) (st1 (⟨b0, 0, none⟩ : Addr) (.bool false) <| jump .ret)
            (brB ((IntKind.wrap .i64 ((IntKind.wrap .i64 ((IntKind.wrap .i64 ((0 : Int) + 0)) + r68.2.1)) + r70.2.1)) != (0 : Int)) (st1 (⟨b0, 0, none⟩ : Addr) (.bool false) <| jump .ret)
            (callT Try.prog fn_slices_Equal_bitword_Word_bitword_Word #[(.slice s62.a s62.len s62.cap), (.slice r70.1.a r70.1.len r70.1.cap)] .bool fun r71 =>
            brB (!r71) (st1 (⟨b0, 0, none⟩ : Addr) (.bool false) <| jump .ret) next))) h' := by
        intro sw rt Bs h' iw it st hiw hit
        have gw : ∀ (j : Nat) (A : Asn), Bs[j]? = some A → ∀ (Cs : List Asn), ([cl b0 ty_bool [.bool false], cl b5 ty_sl_disk_Entry [.slice r3.a r3.len r3.cap], cl b6 ty_sl_disk_Entry [.slice r4.a r4.len r4.cap], cl b12 ty_sl_disk_Entry [.slice s'.a s'.len s'.cap], cl b32 ty_int [.int .i64 ((pre.length + 1 : Nat) : Int)]] ++ ([ob kb x, ow (applyP (applyP (List.replicate 3 0) a (List.replicate a.length true)) b kb) s62] ++ Bs) ++ Cs)[7 + j]? = some A := fun j A hj Cs => by
          have hlt := (List.getElem?_eq_some_iff.1 hj).1
          rw [List.getElem?_append_left (by simp; omega)]
          have e : 7 + j = j + 7 := by omega
          rw [e]; simpa using hj
        have g0 := fun j A hj => gw j A hj []
        simp only [List.append_nil] at g0
        refine call_of (Apply_c (m := List.replicate 3 0) (k := List.replicate a.length true) (st.fz 2 rfl) (st.own (7 + it) (g0 _ _ hit)).rsl (st.own (7 + iw) (g0 _ _ hiw)).rsl (by omega) (by simp)) ?_
        rintro r h30 ⟨s68, er, n68, x30⟩
        have e1 : applyC (List.replicate 3 0) a (List.replicate a.length true) = (applyP (List.replicate 3 0) a (List.replicate a.length true), 0) := by
          unfold applyC
          rw [if_pos (chk _ _ ra (by simp)), if_pos (by simpa using fa)]
        rw [e1] at er n68
        subst er
        have st := st.new x30 n68
        rw [st.lds 2 0 rfl rfl]
        have hl3 : (applyP (List.replicate 3 0) a (List.replicate a.length true)).length = 3 := by rw [applyP_len]; rfl
        have hlast : At h30 (ow (applyP (List.replicate 3 0) a (List.replicate a.length true)) s68) := st.own _ (lastA _ _)
        refine call_of (Apply_c (m := applyP (List.replicate 3 0) a (List.replicate a.length true)) (k := kb) (st.fz 3 rfl) (st.own 5 rfl).rsl hlast.rsl (by omega) (by rw [hl3]; decide)) ?_
        rintro r h31 ⟨s70, er, n70, x31⟩
        have e2 : applyC (applyP (List.replicate 3 0) a (List.replicate a.length true)) b kb = (applyP (applyP (List.replicate 3 0) a (List.replicate a.length true)) b kb, 0) := by
          unfold applyC
          rw [if_pos (chk _ _ rb hkl), if_pos (by rw [hl3]; exact fb)]
        rw [e2] at er n70
        subst er
        have st := st.new x31 n70
        change brB false _ _ _
        rw [brB_false]
        change brB false _ _ _
        rw [brB_false]
        have hlast2 : At h31 (ow (applyP (applyP (List.replicate 3 0) a (List.replicate a.length true)) b kb) s70) := st.own _ (lastA _ _)
        refine call_of (equal_word (st.own 6 rfl).rsl hlast2.rsl (by rw [applyP_len, hl3]; decide)) ?_
        rintro _ hq ⟨rfl, rfl⟩
        rw [decide_eq_true rfl]
        change brB false _ _ _
        rw [brB_false]
        refine hnext _ _ ?_ (st.dropL.dropL.dropR)
        simp
      have st := ((st.drop 8 rfl).drop 7 rfl).drop 6 rfl
      simp only [List.eraseIdx_cons_zero, List.eraseIdx_cons_succ] at st
      have hlt3 : r3.len ≤ 4096 := by omega
      refine ⟨?_, ?_⟩
      · refine Hs.mks1 (τ := u32) (n := 3) (z := 0) st (by decide) (by decide) fun s65 h30 st => ?_
        refine st.nw fun b66 h31 st => ?_
        have st := st.asSl 8 Ty.bool.enc [true] rfl rfl
        simp only [List.nil_append, List.cons_append, List.set_cons_zero, List.set_cons_succ] at st
        refine Hs.repeat_true (s := ⟨some ⟨b66, 0, none⟩, 1, 1⟩) (n := r3.len) st hlt3 8 rfl fun r67 h32 st => ?_
        simp only [List.nil_append, List.cons_append] at st
        have st := st.imp 9 rfl (A' := ob (List.replicate a.length true) r67) fun S h q => by rw [← l3]; exact q
        simp only [List.set_cons_zero, List.set_cons_succ] at st
        rw [st.ck 1 0 rfl rfl]
        exact tail s65 r67 [_, _, _] h32 0 2 st rfl rfl
      · refine st.nw fun b72 h30 st => ?_
        have st := st.asSl 7 Ty.bool.enc [true] rfl rfl
        simp only [List.nil_append, List.cons_append, List.set_cons_zero, List.set_cons_succ] at st
        refine ⟨?_, ?_⟩
        · refine Hs.mks1 (τ := u32) (n := 3) (z := 0) st (by decide) (by decide) fun s73 h31 st => ?_
          simp only [List.nil_append, List.cons_append] at st
          refine Hs.repeat_true (s := ⟨some ⟨b72, 0, none⟩, 1, 1⟩) (n := r3.len) st hlt3 7 rfl fun r74 h32 st => ?_
          simp only [List.nil_append, List.cons_append] at st
          have st := st.imp 9 rfl (A' := ob (List.replicate a.length true) r74) fun S h q => by rw [← l3]; exact q
          simp only [List.set_cons_zero, List.set_cons_succ] at st
          rw [st.ck 1 0 rfl rfl]
          exact tail s73 r74 [_, _, _] h32 1 2 st rfl rfl
        · refine Hs.repeat_true (s := ⟨some ⟨b72, 0, none⟩, 1, 1⟩) (n := r3.len) st hlt3 7 rfl fun r79 h31 st => ?_
          simp only [List.nil_append, List.cons_append] at st
          have st := st.imp 8 rfl (A' := ob (List.replicate a.length true) r79) fun S h q => by rw [← l3]; exact q
          simp only [List.set_cons_zero, List.set_cons_succ] at st
          rw [st.ck 1 0 rfl rfl]
          refine Hs.mks1 (τ := u32) (n := 3) (z := 0) st (by decide) (by decide) fun s80 h32 st => ?_
          simp only [List.nil_append, List.cons_append] at st
          exact tail s80 r79 [_, _, _] h32 2 1 st rfl rfl
    · rintro pre Bs h23 hfin rfl st
      refine st.st1 0 0 rfl (by simp) fun h24 st => ?_
      intro h25 hM
      have st := st.marked hM
      rw [st.ldb 0 0 rfl rfl]
      exact hK _ _ ⟨rfl, st.frame (by simp)⟩

end Go.Proofs.S
