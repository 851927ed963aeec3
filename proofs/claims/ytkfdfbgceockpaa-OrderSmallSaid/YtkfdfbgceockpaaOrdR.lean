/-
  Remove, Pop.
-/
import Derived.Test.YtkfdfbgceockpaaOrdE
set_option linter.unusedVariables false
set_option linter.unusedSimpArgs false
set_option linter.unusedSectionVars false
namespace Go.Proofs.Ord
open Go Go.Sx Go.Proofs

theorem erase_srt {act H Pl H2 Pl2 : List Int} {n v : Nat} (c : Cons H Pl n) (c2 : Cons H2 Pl2 n) (he : ∀ w : Nat, 1 ≤ w → (0 ≤ g Pl2 w ↔ w ≠ v ∧ 0 ≤ g Pl w)) : (srt act H).erase (v : Int) = srt act H2 := by
  have s := srt_sorted (act := act) c.nodup
  refine Sorted.eq_srt (List.Pairwise.sublist List.erase_sublist s) ?_
  rw [List.perm_ext_iff_of_nodup (s.nodup.erase _) c2.nodup]
  intro x
  rw [s.nodup.mem_erase_iff, mem_srt, c.mem, c2.mem]
  constructor
  · rintro ⟨h0, h1, h2, h3⟩; exact ⟨h1, h2, (he _ (by omega)).2 ⟨by omega, h3⟩⟩
  · rintro ⟨h1, h2, h3⟩
    obtain ⟨k1, k2⟩ := (he _ (by omega)).1 h3
    exact ⟨by omega, h1, h2, k2⟩

section
variable {h : Heap} {o ab pb hb : Nat} {act H Pl : List Int} {step : Int} {ra rh rp : List Value}

theorem ints_dropLast (hne : 0 < H.length) : ints H ++ rh = ints H.dropLast ++ (.int .i64 (g H (H.length - 1)) :: rh) := by
  have e : H = H.dropLast ++ [g H (H.length - 1)] := by
    have h0 : H ≠ [] := by intro e; subst e; simp at hne
    have := List.dropLast_concat_getLast h0
    rw [List.getLast_eq_getElem] at this
    have e2 : g H (H.length - 1) = H[H.length - 1] := by
      simp only [g, List.getD_eq_getElem?_getD]
      rw [List.getElem?_eq_getElem (by omega)]; rfl
    rw [e2]; exact this.symm
  conv => lhs; rw [e]
  simp

/-- The last is cut off. -/
theorem RawH.cut (r : RawH h o ab hb pb act H Pl step ra rh rp) (hne : 0 < H.length) :
    RawH (setC h ⟨o, 1, none⟩ (.slice (pt hb) (H.length - 1) (H.length + rh.length))) o ab hb pb act H.dropLast Pl step ra (.int .i64 (g H (H.length - 1)) :: rh) rp := by
  have rc := r.toRawC.setHeap (pt hb) (H.length - 1) (H.length + rh.length)
  have hh := r.Hh.set_ne (a := ⟨o, 1, none⟩) (.slice (pt hb) (H.length - 1) (H.length + rh.length)) (Ne.symm r.oh)
  rw [ints_dropLast hne] at hh
  refine ⟨?_, hh, r.oh, r.ah, r.ph⟩
  have e1 : H.dropLast.length = H.length - 1 := by simp
  have e2 : H.length - 1 + (Value.int .i64 (g H (H.length - 1)) :: rh).length = H.length + rh.length := by simp; omega
  rw [e1, e2]; exact rc
end

theorem remove_c {h : Heap} {S : List Nat} {o n : Nat} {act : List Int} {step : Int} {L : List Int} (r : Rep h S o n act step L) (v : Int) :
    callT Try.prog fn_order_Order_Remove #[.pointer (pt o), .int .i64 v] (.int .i64)
      (fun x h' => x = (if 1 ≤ v ∧ v ≤ n then 0 else 110) ∧ Keeps h S o n act step (L.erase v) h') h := by
  have rep := r
  obtain ⟨ab, hb, pb, H, Pl, rfl, r, c, hp, hl, hn, rfl, hbl⟩ := r
  obtain ⟨ha, ch, ra, rp, rc⟩ := r.common
  refine callT_gen fun K hK => ?_
  apply S_order_Order_Remove
  unfold F_order_Order_Remove
  refine call_of (wrong_c rc v) ?_
  rintro w h' ⟨rfl, rfl⟩
  by_cases hv : 1 ≤ v ∧ v ≤ n
  · have e : (if 1 ≤ v ∧ v < (act.length : Int) then (0 : Int) else 110) = 0 := if_pos (by omega)
    have e1 : ((0 : Int) != 0) = false := rfl
    obtain ⟨k, rfl⟩ : ∃ k : Nat, v = k := ⟨v.toNat, by omega⟩
    have hpl := c.len
    simp only [e, e1, brB_false, nn_some, addr_add, rc.l2, rdn rc.P (k := k) (show k < Pl.length by omega)]
    have end_ : ∀ h2, Keeps h' [o, ab, hb, pb] o n act step ((srt act H).erase k) h2 → K 0 h2 := fun h2 t => hK _ _ ⟨(if_pos hv).symm, t⟩
    by_cases hin : g Pl k < 0
    · have e : decide (g Pl k < 0) = true := by simpa using hin
      simp only [e, brB_true]
      refine end_ _ ?_
      rw [List.erase_of_not_mem]
      · exact rep.keeps
      · rw [mem_srt, c.mem]; simp; omega
    · have e : decide (g Pl k < 0) = false := by simpa using hin
      obtain ⟨b1, b2⟩ := c.bwd k (by omega) (by omega) (by omega)
      obtain ⟨i, ei⟩ : ∃ i : Nat, g Pl k = i := ⟨(g Pl k).toNat, by omega⟩
      rw [ei] at b1 b2
      simp only [Int.toNat_natCast] at b1 b2
      obtain ⟨ra, rh, rp, rr⟩ := r.full (by omega)
      have hlen := c.length_le
      have ew : IntKind.wrap .i64 ((H.length : Int) - 1) = (H.length - 1 : Nat) := by rw [wrap_i64 (by omega) (by omega)]; omega
      simp only [e, brB_false, nn_some, addr_add, rr.toRawC.l1, ew, rdn rr.Hh (k := H.length - 1) (show H.length - 1 < H.length by omega)]
      refine ⟨by omega, by simp; omega, ?_⟩
      have esl : (slR ⟨pt hb, H.length, H.length + rh.length⟩ 0 (((H.length - 1 : Nat) : Int)).toNat 1) = ⟨pt hb, H.length - 1, H.length + rh.length⟩ := by
        simp [slR]
      rw [esl]
      have r1 := rr.cut (by omega)
      have x1 : Ext [o, ab, hb, pb] h' (setC h' ⟨o, 1, none⟩ (.slice (pt hb) (H.length - 1) (H.length + rh.length))) := (Ext.refl _ _).set _ _ (by simp)
      simp only [nn_some, addr_add]
      rw [Nat.zero_add, st_ok rr.toRawC.O (by simp)]
      generalize setC h' ⟨o, 1, none⟩ (.slice (pt hb) (H.length - 1) (H.length + rh.length)) = h1 at *
      simp only [nn_some, addr_add, r1.toRawC.l2, wrn r1.P (k := k) (show k < Pl.length by omega)]
      have r2 := r1.setPl' (i := k) (-1) (by omega)
      have x2 := x1.set ⟨pb, k, none⟩ (.int .i64 (-1)) (by simp)
      generalize setC h1 ⟨pb, k, none⟩ (.int .i64 (-1)) = h2 at *
      refine jn_in fun J hJ => ?_
      rw [ei]
      by_cases hm : i + 1 < H.length
      · have e : decide ((i : Int) < ((H.length - 1 : Nat) : Int)) = true := by simp; omega
        simp only [e, brB_true]
        have rl := c.rng (H.length - 1) (by omega)
        refine call_of (put_c r2 (i := i) (v := g H (H.length - 1)) (by simp; omega) (by simp; omega)) ?_
        rintro _ h3 ⟨r3, x3⟩
        simp only [Int.toNat_natCast] at r3
        have c3 := c.cut (v := k) (i := i) (by omega) (by omega) ei hm
        have l3 : (H.dropLast.set i (g H (H.length - 1))).length = H.length - 1 := by simp
        refine call_of (up_c r3 c3 hl (i := i) (by omega) (hp.dropLast.set_hole i _) (by omega)) ?_
        rintro _ h4 ⟨H4, Pl4, cur, r4, cl, uo, x4⟩
        have gl : g (H.dropLast.set i (g H (H.length - 1))) i = g H (H.length - 1) := by rw [g_set, if_pos ⟨rfl, by simp; omega⟩]
        have hc := cl.lt
        have hlen4 := cl.len
        have e4 : g Pl4 (g H (H.length - 1)).toNat = cur := by
          have := cl.cons.fwd cur (by omega)
          rw [cl.at_, gl] at this; exact this
        have hpl4 := cl.cons.len
        obtain ⟨kl, ekl⟩ : ∃ kl : Nat, g H (H.length - 1) = kl := ⟨(g H (H.length - 1)).toNat, by omega⟩
        rw [ekl] at e4 rl ⊢
        simp only [Int.toNat_natCast] at e4
        simp only [nn_some, addr_add, r4.toRawC.l2, rdn r4.P (k := kl) (show kl < Pl4.length by omega), e4]
        refine call_of (down_c r4 cl.cons hl (by omega) cl.hole uo (by omega)) ?_
        rintro _ h5 ⟨H5, Pl5, r5, c5, s5, l5, hp5, x5⟩
        refine hJ _ _ (end_ _ ⟨⟨ab, hb, pb, H5, Pl5, rfl, .inl ⟨_, _, _, r5⟩, c5, hp5, hl, hn, ?_, r5.Hh.lt⟩, ?_⟩)
        · have ss := cl.same.trans s5
          rw [← srt_congr (c3.nodup) (c3.perm c5 ss).symm]
          refine erase_srt c c3 fun w hw => ?_
          have fl := c.fwd (H.length - 1) (by omega)
          rw [ekl] at fl ⊢
          simp only [Int.toNat_natCast] at fl ⊢
          rw [g_set, g_set]
          have lk : (Pl.set k (-1)).length = n + 1 := by simp [hpl]
          by_cases e1 : kl = w
          · subst e1
            rw [if_pos ⟨rfl, by omega⟩]
            have : kl ≠ k := by rintro rfl; omega
            exact ⟨fun _ => ⟨this, by omega⟩, fun _ => by omega⟩
          · rw [if_neg (by omega)]
            by_cases e2 : k = w
            · subst e2
              rw [if_pos ⟨rfl, by omega⟩]
              exact ⟨fun h => by omega, fun h => absurd rfl h.1⟩
            · rw [if_neg (by omega)]
              exact ⟨fun h => ⟨Ne.symm e2, h⟩, fun h => h.2⟩
        · exact ((x2.trans x3 (by intro b hb; simp at hb ⊢; omega)).trans x4 (by intro b hb; simp at hb ⊢; omega)).trans x5 (by intro b hb; simp at hb ⊢; omega)
      · have e : decide ((i : Int) < ((H.length - 1 : Nat) : Int)) = false := by simp; omega
        simp only [e, brB_false]
        have c3 := c.pop (v := k) (by omega) (by omega) (by omega) (by omega)
        refine hJ _ _ (end_ _ ⟨⟨ab, hb, pb, H.dropLast, Pl.set k (-1), rfl, .inl ⟨_, _, _, r2⟩, c3, hp.dropLast, hl, hn, ?_, r2.Hh.lt⟩, x2⟩)
        refine erase_srt c c3 fun w hw => ?_
        rw [g_set]
        by_cases e2 : k = w
        · subst e2
          rw [if_pos ⟨rfl, by omega⟩]
          exact ⟨fun h => by omega, fun h => absurd rfl h.1⟩
        · rw [if_neg (by omega)]
          exact ⟨fun h => ⟨Ne.symm e2, h⟩, fun h => h.2⟩
  · have e : (if 1 ≤ v ∧ v < (act.length : Int) then (0 : Int) else 110) = 110 := if_neg (by omega)
    have e1 : ((110 : Int) != 0) = true := rfl
    simp only [e, e1, brB_true]
    refine hK _ _ ⟨(if_neg hv).symm, ?_⟩
    rw [List.erase_of_not_mem]
    · exact rep.keeps
    · rw [mem_srt, c.mem]; omega

theorem peekR_c {h : Heap} {S : List Nat} {o n : Nat} {act : List Int} {step : Int} {L : List Int} (r : Rep h S o n act step L) :
    callT Try.prog fn_order_Order_Peek #[.pointer (pt o)] (.tup (.cons (.int .i64) (.cons .bool .nil))) (fun x h' => x = (L.headD 0, decide (0 < L.length), ()) ∧ h' = h) h := by
  obtain ⟨ab, hb, pb, H, Pl, rfl, r, c, hp, hl, hn, rfl, hbl⟩ := r
  rw [srt_head c hp, length_srt]
  exact peek_c r

theorem Rep.mem {h : Heap} {S : List Nat} {o n : Nat} {act : List Int} {step : Int} {L : List Int} (r : Rep h S o n act step L) : ∀ x ∈ L, 1 ≤ x ∧ x ≤ n := by
  obtain ⟨ab, hb, pb, H, Pl, rfl, r, c, hp, hl, hn, rfl, hbl⟩ := r
  intro x hx
  rw [mem_srt, c.mem] at hx; omega
theorem Rep.sorted {h : Heap} {S : List Nat} {o n : Nat} {act : List Int} {step : Int} {L : List Int} (r : Rep h S o n act step L) : Sorted act L := by
  obtain ⟨ab, hb, pb, H, Pl, rfl, r, c, hp, hl, hn, rfl, hbl⟩ := r
  exact srt_sorted c.nodup
theorem Rep.len {h : Heap} {S : List Nat} {o n : Nat} {act : List Int} {step : Int} {L : List Int} (r : Rep h S o n act step L) : act.length = n + 1 ∧ n ≤ 1048576 ∧ L.length ≤ n := by
  obtain ⟨ab, hb, pb, H, Pl, rfl, r, c, hp, hl, hn, rfl, hbl⟩ := r
  exact ⟨hl, hn, by rw [length_srt]; exact c.length_le⟩

theorem pop_c {h : Heap} {S : List Nat} {o n : Nat} {act : List Int} {step : Int} {L : List Int} (r : Rep h S o n act step L) :
    callT Try.prog fn_order_Order_Pop #[.pointer (pt o)] (.tup (.cons (.int .i64) (.cons .bool .nil))) (fun x h' => x = (L.headD 0, decide (0 < L.length), ()) ∧ Keeps h S o n act step L.tail h') h := by
  refine callT_gen fun K hK => ?_
  apply S_order_Order_Pop
  unfold F_order_Order_Pop
  refine call_of (peekR_c r) ?_
  rintro x h' ⟨rfl, rfl⟩
  refine jn_in fun J hJ => ?_
  cases L with
  | nil =>
    refine hJ _ _ (hK _ _ ⟨rfl, r.keeps⟩)
  | cons y ys =>
    refine call_of (remove_c r y) ?_
    rintro _ h2 ⟨_, t⟩
    refine hJ _ _ (hK _ _ ⟨rfl, ?_⟩)
    rwa [List.erase_cons_head] at t

end Go.Proofs.Ord

/-
  Clone, All: what is handed over.
-/
set_option linter.unusedVariables false
set_option linter.unusedSimpArgs false
set_option linter.unusedSectionVars false
namespace Go.Proofs.Ord
open Go Go.Sx Go.Proofs

theorem clone_c {h : Heap} {b : Nat} {xs : List Int} {s : Sl} (hs : ISl0 h b xs s) (hlen : xs.length ≤ 2000000) :
    callT Try.prog fn_slices_Clone_int_int #[.slice s.a s.len s.cap] .sl (fun s' h' => ∃ b', ISl0 h' b' xs s' ∧ Ext [] h h' ∧ h.size ≤ b') h := by
  refine callT_gen fun K hK => ?_
  refine S_slices_Clone_int_int (a0 := s) K ?_
  unfold F_slices_Clone_int_int
  cases ha : s.a with
  | none =>
    rcases hs with ⟨rest, rfl, hb⟩ | ⟨rfl, h1, h2⟩
    · cases ha
    · exact hK _ _ ⟨h.size, .inr ⟨rfl, rfl, rfl⟩, Ext.refl _ _, Nat.le_refl _⟩
  | some a =>
    simp only [Option.isNone_some, brB_false, nw_eq]
    have x1 := (Ext.refl [] h).push (.cells #[] 3)
    have kb := Blk.new h 3 #[]
    have s1 : (h.push (.cells #[] 3)).size = h.size + 1 := by simp
    have fc : FirstCells (h.push (.cells #[] 3)) (some a) (xs.length * 1) (ints xs) ∧ s.len = xs.length := by
      rcases hs with ⟨rest, rfl, hb⟩ | ⟨rfl, h1, h2⟩
      · cases ha
        exact ⟨⟨by simp, CellsAt_blk _ (hb.push _) 0 (by intro j hj; simp at hj ⊢; rw [List.getElem?_append_left (by simpa using hj)]; simp)⟩, rfl⟩
      · exact ⟨⟨rfl, trivial⟩, h1⟩
    obtain ⟨fc, el⟩ := fc
    generalize h.push (.cells #[] 3) = h1 at *
    refine ⟨ints xs, by rw [el]; exact fc, fun hle => ?_, fun hgt => ?_⟩
    · have : xs = [] := by
        cases xs with
        | nil => rfl
        | cons x xs => simp [el] at hle
      subst this
      simp only [el, List.length_nil]
      exact hK _ _ ⟨h.size, .inr ⟨rfl, rfl, rfl⟩, x1, Nat.le_refl _⟩
    · simp only [el] at hgt ⊢
      refine ⟨by omega, by omega, [], ⟨rfl, trivial⟩, fun nc h1' h2' => ?_⟩
      have hn := Blk.new h1 3 (([] : List Value).toArray ++ (ints xs).toArray ++ Builtin.zeroCells #[.int .i64 0] (nc - (0 + xs.length)))
      refine hK _ _ ⟨h1.size, .inl ⟨(Builtin.zeroCells #[.int .i64 0] (nc - (0 + xs.length))).toList, ?_, ?_⟩, x1.push _, by omega⟩
      · simp [Builtin.zeroCells]; omega
      · simpa using hn

theorem all_c (o : Nat) (h : Heap) : callT Try.prog fn_order_Order_All #[.pointer (pt o)] .val
    (fun r h' => r = .func (.func 39) #[] #[.pointer (pt h.size)] ∧ h' = h.push (.cells #[.pointer (pt o)] 24)) h := by
  refine callT_gen fun K hK => ?_
  apply S_order_Order_All
  simp only [F_order_Order_All, nw_eq]
  exact hK _ _ ⟨rfl, rfl⟩

theorem Rep.extC {h h' : Heap} {S T : List Nat} {o n : Nat} {act : List Int} {step : Int} {L : List Int} (r : Rep h S o n act step L) (he : ExtC T h h') (hd : ∀ b ∈ S, b ∉ T) : Rep h' S o n act step L := by
  obtain ⟨ab, hb, pb, H, Pl, rfl, r, rest⟩ := r
  refine ⟨ab, hb, pb, H, Pl, rfl, ?_, rest.1, rest.2.1, rest.2.2.1, rest.2.2.2.1, rest.2.2.2.2.1, Nat.lt_of_lt_of_le rest.2.2.2.2.2 he.1⟩
  have q : ∀ {t c b}, b ∈ [o, ab, hb, pb] → Blk h b t c → Blk h' b t c := fun hm hk => hk.extC he (hd _ hm)
  rcases r with ⟨ra, rh, rp, r⟩ | ⟨e, ra, rp, ha, r⟩
  · exact .inl ⟨ra, rh, rp, ⟨q (by simp) r.O, q (by simp) r.A, q (by simp) r.P, r.oa, r.op, r.ap⟩, q (by simp) r.Hh, r.oh, r.ah, r.ph⟩
  · exact .inr ⟨e, ra, rp, ha, q (by simp) r.O, q (by simp) r.A, q (by simp) r.P, r.oa, r.op, r.ap⟩

theorem all_iter {h : Heap} {S : List Nat} {o n c : Nat} {act : List Int} {step : Int} {L : List Int} (r : Rep h S o n act step L) (kc : Blk h c 24 [.pointer (pt o)]) :
    IterSpec Try.prog τi (.func (.func 39) #[] #[.pointer (pt c)]) h (fun pre x => ∃ r, pre.map (·.1) ++ x.1 :: r = L) (fun pre => pre.map (·.1) = L) [] [] := by
  intro A D B0 hB0 sA sD yl hy hA
  have key : callF Try.prog (.func (.func 39) #[] #[.pointer (pt c)]) #[yl] (.tup .nil) (fun _ h2 => ∃ B', (∃ pre, List.map (·.1) pre = L ∧ A pre B' h2) ∨ D B' h2) h := by
    refine callF_func (S_order_Order_All_1 (a0 := yl) (c0 := ⟨c, 0, none⟩) _ ?_)
    generalize hKg : (fun (_ : Unit) (h2 : Heap) => ∃ B', (∃ pre, List.map (·.1) pre = L ∧ A pre B' h2) ∨ D B' h2) = K
    have hKg : ∀ u h2, (∃ B', (∃ pre, List.map (·.1) pre = L ∧ A pre B' h2) ∨ D B' h2) → K u h2 := fun u h2 hh => by rw [← hKg]; exact hh
    have rep := r
    obtain ⟨ab, hb, pb, H, Pl, rfl, r, cs, hp, hl, hn, rfl, hbl⟩ := r
    obtain ⟨ha, ch, ra, rp, rc⟩ := r.common
    have hpl := cs.len
    have hlen := cs.length_le
    have isH : ISl0 h hb H ⟨ha, H.length, ch⟩ := by
      rcases r with ⟨ra', rh', rp', r⟩ | ⟨e0, ra', rp', ha', r⟩
      · have eO := rc.O.inj r.O
        simp at eO
        obtain ⟨_, ⟨e3, e4⟩, _⟩ := eO
        subst e3; subst e4
        exact .inl ⟨rh', rfl, r.Hh⟩
      · subst e0
        have eO := rc.O.inj r.O
        simp at eO
        exact .inr ⟨rfl, rfl, eO.2.1.2⟩
    unfold F_order_Order_All_1
    simp only [ld_ptr (i := 0) kc rfl]
    refine call_of (is_c rc) ?_
    rintro bb h' ⟨rfl, rfl⟩
    simp only [Bool.not_true, brB_false, ld_ptr (i := 0) kc rfl, nn_some, addr_add, rc.l0, rc.l1, rc.l2, rc.l3]
    have olt := rc.O.lt
    have keep : ∀ h2, Ext [] h' h2 → RawC h2 o ab pb act Pl step ha H.length ch ra rp ∧ Blk h2 c 24 [.pointer (pt o)] ∧ ISl0 h2 hb H ⟨ha, H.length, ch⟩ := by
      intro h2 x
      refine ⟨rc.ext x (by simp) (by simp) (by simp), kc.ext x (by simp), ?_⟩
      rcases isH with ⟨rest, e, hk⟩ | hh
      · exact .inl ⟨rest, e, hk.ext x (by simp)⟩
      · exact .inr hh
    refine call_of (clone_c (b := ab) (xs := act) (s := ⟨pt ab, act.length, act.length + ra.length⟩) (.inl ⟨ra, rfl, rc.A⟩) (by omega)) ?_
    rintro s1 h1 ⟨b1, is1, x1, l1⟩
    obtain ⟨rc1, kc1, isH1⟩ := keep h1 x1
    simp only [Nat.zero_add, ck_ok (i := 3) rc1.O rfl, ck_ok (i := 2) rc1.O rfl, ck_ok (i := 1) rc1.O rfl, ck_ok (i := 0) kc1 rfl]
    refine call_of (clone_c isH1 (by omega)) ?_
    rintro s2 h2 ⟨b2, is2, x2, l2⟩
    have x2' := x1.nil_trans x2
    obtain ⟨rc2, kc2, isH2⟩ := keep h2 x2'
    simp only [Nat.zero_add, ck_ok (i := 3) rc2.O rfl, ck_ok (i := 2) rc2.O rfl, ck_ok (i := 0) kc2 rfl]
    refine call_of (clone_c (b := pb) (xs := Pl) (s := ⟨pt pb, Pl.length, Pl.length + rp.length⟩) (.inl ⟨rp, rfl, rc2.P⟩) (by omega)) ?_
    rintro s3 h3 ⟨b3, is3, x3, l3⟩
    have x3' := x2'.nil_trans x3
    obtain ⟨rc3, kc3, isH3⟩ := keep h3 x3'
    simp only [Nat.zero_add, ck_ok (i := 3) rc3.O rfl, ck_ok (i := 0) kc3 rfl, nw_eq]
    have z1 := x1.1
    have z2 := x2.1
    have z3 := x3.1
    have is1' : ISl h1 b1 act s1 := by
      rcases is1 with k | ⟨e, _⟩
      · exact k
      · rw [e] at hl; simp at hl
    have is3' : ISl h3 b3 Pl s3 := by
      rcases is3 with k | ⟨e, _⟩
      · exact k
      · rw [e] at hpl; simp at hpl
    obtain ⟨ra1, rfl, k1⟩ := is1'
    obtain ⟨rp1, rfl, k3⟩ := is3'
    have lt1 := k1.lt
    have lt3 := k3.lt
    have k1 := k1.ext (x2.nil_trans x3) (by simp)
    have xo := (Ext.refl [] h3).push (.cells #[.slice (pt b1) act.length (act.length + ra1.length), .slice s2.a s2.len s2.cap, .slice (pt b3) Pl.length (Pl.length + rp1.length), .int .i64 step, .bool true] 56)
    have ko := Blk.new h3 56 #[.slice (pt b1) act.length (act.length + ra1.length), .slice s2.a s2.len s2.cap, .slice (pt b3) Pl.length (Pl.length + rp1.length), .int .i64 step, .bool true]
    have x4' := x3'.nil_trans xo
    have s4 : (h3.push (.cells #[.slice (pt b1) act.length (act.length + ra1.length), .slice s2.a s2.len s2.cap, .slice (pt b3) Pl.length (Pl.length + rp1.length), .int .i64 step, .bool true] 56)).size = h3.size + 1 := by simp
    have rep4 : ∃ S2, Rep (h3.push (.cells #[.slice (pt b1) act.length (act.length + ra1.length), .slice s2.a s2.len s2.cap, .slice (pt b3) Pl.length (Pl.length + rp1.length), .int .i64 step, .bool true] 56)) S2 h3.size n act step (srt act H) ∧ ∀ b ∈ S2, h'.size ≤ b := by
      rcases is2 with ⟨rh2, e2, k2⟩ | ⟨e2, e3, e4⟩
      · subst e2
        have lt2 := k2.lt
        have k2 := k2.ext x3 (by simp)
        refine ⟨_, ⟨b1, b2, b3, H, Pl, rfl, .inl ⟨ra1, rh2, rp1, ⟨ko, k1.ext xo (by simp), k3.ext xo (by simp), ?_, ?_, ?_⟩, k2.ext xo (by simp), ?_, ?_, ?_⟩, cs, hp, hl, hn, rfl, ?_⟩, ?_⟩
        all_goals first | omega | (intro b hb; simp at hb; omega)
      · subst e2
        refine ⟨_, ⟨b1, h3.size, b3, [], Pl, rfl, .inr ⟨rfl, ra1, rp1, s2.a, ⟨?_, k1.ext xo (by simp), k3.ext xo (by simp), ?_, ?_, ?_⟩⟩, cs, hp, hl, hn, rfl, ?_⟩, ?_⟩
        · simp only [e3, e4] at ko ⊢
          exact ko
        all_goals first | omega | (intro b hb; simp at hb; omega)
    generalize h3.push (.cells #[.slice (pt b1) act.length (act.length + ra1.length), .slice s2.a s2.len s2.cap, .slice (pt b3) Pl.length (Pl.length + rp1.length), .int .i64 step, .bool true] 56) = h4 at *
    obtain ⟨S2, rep4, hS2⟩ := rep4
    have hA4 : A [] B0 h4 := sA [] B0 h' h4 [] hA x4' (by simp)
    have hB4 : ∀ b ∈ B0, b < h'.size := fun b hb => (hB0 b hb).1
    refine call_of (pop_c rep4) ?_
    rintro x h5 ⟨rfl, rep5, x5⟩
    have hA5 : A [] B0 h5 := sA [] B0 h4 h5 S2 hA4 x5 (fun t ht => ⟨fun hb => by have := hS2 t ht; have := hB4 t hb; omega, .inl (hS2 t ht)⟩)
    refine lfp_invh (I := fun m s hh => ∃ pre L' B S', A pre B hh ∧ Rep hh S' h3.size n act step L'.tail ∧ s = (decide (0 < L'.length), L'.headD 0, ()) ∧ pre.map (·.1) ++ L' = srt act H ∧ (∀ b ∈ S', h'.size ≤ b ∧ b ∉ B) ∧ m = L'.length)
      ⟨_, [], srt act H, B0, S2, hA5, rep5, rfl, by simp, fun b hb => ⟨hS2 b hb, fun hb' => by have := hS2 b hb; have := hB4 b hb'; omega⟩, rfl⟩ ?_
    rintro m s hh X ⟨pre, L', B, S', hA, rp', rfl, hpre, hS', rfl⟩ hX
    cases L' with
    | nil =>
      refine hKg _ _ ⟨B, .inl ⟨pre, by simpa using hpre, hA⟩⟩
    | cons y ys =>
      simp only [List.length_cons, Nat.zero_lt_succ, decide_true, brB_true]
      refine CallV.mono (hy pre (y, ()) B hh [] ⟨⟨ys, hpre⟩, rfl⟩ (by simp) hA) ?_
      rintro v h6 ⟨B', ⟨hF, _⟩, hE, hv⟩
      have rp6 := rp'.extC hE (fun b hb => (hS' b hb).2)
      have hS6 : ∀ b ∈ S', b ∉ B' := fun b hb hin => by
        rcases hF b hin with k | k
        · exact (hS' b hb).2 k
        · have := rp'.lt b hb; omega
      rcases hv with ⟨rfl, hA6⟩ | ⟨rfl, hD⟩
      · refine ⟨true, rfl, ?_⟩
        simp only [Bool.not_true, brB_false]
        refine call_of (pop_c rp6) ?_
        rintro x h7 ⟨rfl, rep7, x7⟩
        have hA7 := sA _ B' h6 h7 S' hA6 x7 (fun t ht => ⟨hS6 t ht, .inl (hS' t ht).1⟩)
        have hz := hE.1
        refine hX _ _ _ ⟨pre ++ [(y, ())], ys, B', S', hA7, rep7, rfl, ?_, ?_, rfl⟩ (by simp)
        · rw [← hpre]; simp
        · exact fun b hb => ⟨(hS' b hb).1, hS6 b hb⟩
      · refine ⟨false, rfl, ?_⟩
        simp only [Bool.not_false, brB_true]
        exact hKg _ _ ⟨B', .inr hD⟩
  exact CallV.mono key fun v h2 ⟨_, _, r⟩ => r

end Go.Proofs.Ord
