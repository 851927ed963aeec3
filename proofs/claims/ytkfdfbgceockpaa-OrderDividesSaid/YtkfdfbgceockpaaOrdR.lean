/-
  Remove, Pop.
-/
import Derived.Test.YtkfdfbgceockpaaOrdE
set_option linter.unusedVariables false
namespace Go.Proofs.Ord
open Go Go.Sx Go.Proofs

theorem erase_srt {act H Pl H2 Pl2 : List Int} {n v : Nat} (c : Cons H Pl n) (c2 : Cons H2 Pl2 n) (he : ∀ w : Nat, 1 ≤ w → (0 ≤ g Pl2 w ↔ w ≠ v ∧ 0 ≤ g Pl w)) : (srt act H).erase (v : Int) = srt act H2 := by
  have s := srt_sorted (act := act) c.nodup
  refine Sorted.eq_srt (List.Pairwise.sublist List.erase_sublist s) ?_
  rw [List.perm_ext_iff_of_nodup (s.nodup.erase _) c2.nodup]
  intro x
  rw [s.nodup.mem_erase_iff, mem_srt, c.mem, c2.mem]
  constructor
  · rintro ⟨h0, h1, h2, h3⟩; exact ⟨h1, h2, (he _ (by omega)).2 ⟨by omega, h3⟩⟩
  · rintro ⟨h1, h2, h3⟩
    obtain ⟨k1, k2⟩ := (he _ (by omega)).1 h3
    exact ⟨by omega, h1, h2, k2⟩

section
variable {h : Heap} {o ab pb hb : Nat} {act H Pl : List Int} {step : Int} {ra rh rp : List Value}

theorem ints_dropLast (hne : 0 < H.length) : ints H ++ rh = ints H.dropLast ++ (.int .i64 (g H (H.length - 1)) :: rh) := by
  have e : H = H.dropLast ++ [g H (H.length - 1)] := by
    have h0 : H ≠ [] := by intro e; subst e; simp at hne
    have := List.dropLast_concat_getLast h0
    rw [List.getLast_eq_getElem] at this
    have e2 : g H (H.length - 1) = H[H.length - 1] := by
      simp only [g, List.getD_eq_getElem?_getD]
      rw [List.getElem?_eq_getElem (by omega)]; rfl
    rw [e2]; exact this.symm
  conv => lhs; rw [e]
  simp

/-- The last is cut off. -/
theorem RawH.cut (r : RawH h o ab hb pb act H Pl step ra rh rp) (hne : 0 < H.length) :
    RawH (setC h ⟨o, 1, none⟩ (.slice (pt hb) (H.length - 1) (H.length + rh.length))) o ab hb pb act H.dropLast Pl step ra (.int .i64 (g H (H.length - 1)) :: rh) rp := by
  have rc := r.toRawC.setHeap (pt hb) (H.length - 1) (H.length + rh.length)
  have hh := r.Hh.set_ne (a := ⟨o, 1, none⟩) (.slice (pt hb) (H.length - 1) (H.length + rh.length)) (Ne.symm r.oh)
  rw [ints_dropLast hne] at hh
  refine ⟨?_, hh, r.oh, r.ah, r.ph⟩
  have e1 : H.dropLast.length = H.length - 1 := by simp
  have e2 : H.length - 1 + (Value.int .i64 (g H (H.length - 1)) :: rh).length = H.length + rh.length := by simp; omega
  rw [e1, e2]; exact rc
end

theorem remove_c {h : Heap} {S : List Nat} {o n : Nat} {act : List Int} {step : Int} {L : List Int} (r : Rep h S o n act step L) (v : Int) :
    callT Try.prog fn_order_Order_Remove #[.pointer (pt o), .int .i64 v] (.int .i64)
      (fun x h' => x = (if 1 ≤ v ∧ v ≤ n then 0 else 110) ∧ Keeps h S o n act step (L.erase v) h') h := by
  have rep := r
  obtain ⟨ab, hb, pb, H, Pl, rfl, r, c, hp, hl, hn, rfl, hbl⟩ := r
  obtain ⟨ha, ch, ra, rp, rc⟩ := r.common
  refine callT_gen fun K hK => ?_
  apply S_order_Order_Remove
  unfold F_order_Order_Remove
  refine call_of (wrong_c rc v) ?_
  rintro w h' ⟨rfl, rfl⟩
  by_cases hv : 1 ≤ v ∧ v ≤ n
  · have e : (if 1 ≤ v ∧ v < (act.length : Int) then (0 : Int) else 110) = 0 := if_pos (by omega)
    have e1 : ((0 : Int) != 0) = false := rfl
    obtain ⟨k, rfl⟩ : ∃ k : Nat, v = k := ⟨v.toNat, by omega⟩
    have hpl := c.len
    simp only [e, e1, brB_false, nn_some, addr_add, rc.l2, rdn rc.P (k := k) (show k < Pl.length by omega)]
    have end_ : ∀ h2, Keeps h' [o, ab, hb, pb] o n act step ((srt act H).erase k) h2 → K 0 h2 := fun h2 t => hK _ _ ⟨(if_pos hv).symm, t⟩
    by_cases hin : g Pl k < 0
    · have e : decide (g Pl k < 0) = true := by simpa using hin
      simp only [e, brB_true]
      refine end_ _ ?_
      rw [List.erase_of_not_mem]
      · exact rep.keeps
      · rw [mem_srt, c.mem]; simp; omega
    · have e : decide (g Pl k < 0) = false := by simpa using hin
      obtain ⟨b1, b2⟩ := c.bwd k (by omega) (by omega) (by omega)
      obtain ⟨i, ei⟩ : ∃ i : Nat, g Pl k = i := ⟨(g Pl k).toNat, by omega⟩
      rw [ei] at b1 b2
      simp only [Int.toNat_natCast] at b1 b2
      obtain ⟨ra, rh, rp, rr⟩ := r.full (by omega)
      have hlen := c.length_le
      have ew : IntKind.wrap .i64 ((H.length : Int) - 1) = (H.length - 1 : Nat) := by rw [wrap_i64 (by omega) (by omega)]; omega
      simp only [e, brB_false, nn_some, addr_add, rr.toRawC.l1, ew, rdn rr.Hh (k := H.length - 1) (show H.length - 1 < H.length by omega)]
      refine ⟨by omega, by simp; omega, ?_⟩
      have esl : (slR ⟨pt hb, H.length, H.length + rh.length⟩ 0 (((H.length - 1 : Nat) : Int)).toNat 1) = ⟨pt hb, H.length - 1, H.length + rh.length⟩ := by
        simp [slR]
      rw [esl]
      have r1 := rr.cut (by omega)
      have x1 : Ext [o, ab, hb, pb] h' (setC h' ⟨o, 1, none⟩ (.slice (pt hb) (H.length - 1) (H.length + rh.length))) := (Ext.refl _ _).set _ _ (by simp)
      simp only [nn_some, addr_add]
      rw [Nat.zero_add, st_ok rr.toRawC.O (by simp)]
      generalize setC h' ⟨o, 1, none⟩ (.slice (pt hb) (H.length - 1) (H.length + rh.length)) = h1 at *
      simp only [nn_some, addr_add, r1.toRawC.l2, wrn r1.P (k := k) (show k < Pl.length by omega)]
      have r2 := r1.setPl' (i := k) (-1) (by omega)
      have x2 := x1.set ⟨pb, k, none⟩ (.int .i64 (-1)) (by simp)
      generalize setC h1 ⟨pb, k, none⟩ (.int .i64 (-1)) = h2 at *
      refine jn_in fun J hJ => ?_
      rw [ei]
      by_cases hm : i + 1 < H.length
      · have e : decide ((i : Int) < ((H.length - 1 : Nat) : Int)) = true := by simp; omega
        simp only [e, brB_true]
        have rl := c.rng (H.length - 1) (by omega)
        refine call_of (put_c r2 (i := i) (v := g H (H.length - 1)) (by simp; omega) (by simp; omega)) ?_
        rintro _ h3 ⟨r3, x3⟩
        simp only [Int.toNat_natCast] at r3
        have c3 := c.cut (v := k) (i := i) (by omega) (by omega) ei hm
        have l3 : (H.dropLast.set i (g H (H.length - 1))).length = H.length - 1 := by simp
        refine call_of (up_c r3 c3 hl (i := i) (by omega) (hp.dropLast.set_hole i _) (by omega)) ?_
        rintro _ h4 ⟨H4, Pl4, cur, r4, cl, uo, x4⟩
        have gl : g (H.dropLast.set i (g H (H.length - 1))) i = g H (H.length - 1) := by rw [g_set, if_pos ⟨rfl, by simp; omega⟩]
        have hc := cl.lt
        have hlen4 := cl.len
        have e4 : g Pl4 (g H (H.length - 1)).toNat = cur := by
          have := cl.cons.fwd cur (by omega)
          rw [cl.at_, gl] at this; exact this
        have hpl4 := cl.cons.len
        obtain ⟨kl, ekl⟩ : ∃ kl : Nat, g H (H.length - 1) = kl := ⟨(g H (H.length - 1)).toNat, by omega⟩
        rw [ekl] at e4 rl ⊢
        simp only [Int.toNat_natCast] at e4
        simp only [nn_some, addr_add, r4.toRawC.l2, rdn r4.P (k := kl) (show kl < Pl4.length by omega), e4]
        refine call_of (down_c r4 cl.cons hl (by omega) cl.hole uo (by omega)) ?_
        rintro _ h5 ⟨H5, Pl5, r5, c5, s5, l5, hp5, x5⟩
        refine hJ _ _ (end_ _ ⟨⟨ab, hb, pb, H5, Pl5, rfl, .inl ⟨_, _, _, r5⟩, c5, hp5, hl, hn, ?_, r5.Hh.lt⟩, ?_⟩)
        · have ss := cl.same.trans s5
          rw [← srt_congr (c3.nodup) (c3.perm c5 ss).symm]
          refine erase_srt c c3 fun w hw => ?_
          have fl := c.fwd (H.length - 1) (by omega)
          rw [ekl] at fl ⊢
          simp only [Int.toNat_natCast] at fl ⊢
          rw [g_set, g_set]
          have lk : (Pl.set k (-1)).length = n + 1 := by simp [hpl]
          by_cases e1 : kl = w
          · subst e1
            rw [if_pos ⟨rfl, by omega⟩]
            have : kl ≠ k := by rintro rfl; omega
            exact ⟨fun _ => ⟨this, by omega⟩, fun _ => by omega⟩
          · rw [if_neg (by omega)]
            by_cases e2 : k = w
            · subst e2
              rw [if_pos ⟨rfl, by omega⟩]
              exact ⟨fun h => by omega, fun h => absurd rfl h.1⟩
            · rw [if_neg (by omega)]
              exact ⟨fun h => ⟨Ne.symm e2, h⟩, fun h => h.2⟩
        · exact ((x2.trans x3 (by intro b hb; simp at hb ⊢; omega)).trans x4 (by intro b hb; simp at hb ⊢; omega)).trans x5 (by intro b hb; simp at hb ⊢; omega)
      · have e : decide ((i : Int) < ((H.length - 1 : Nat) : Int)) = false := by simp; omega
        simp only [e, brB_false]
        have c3 := c.pop (v := k) (by omega) (by omega) (by omega) (by omega)
        refine hJ _ _ (end_ _ ⟨⟨ab, hb, pb, H.dropLast, Pl.set k (-1), rfl, .inl ⟨_, _, _, r2⟩, c3, hp.dropLast, hl, hn, ?_, r2.Hh.lt⟩, x2⟩)
        refine erase_srt c c3 fun w hw => ?_
        rw [g_set]
        by_cases e2 : k = w
        · subst e2
          rw [if_pos ⟨rfl, by omega⟩]
          exact ⟨fun h => by omega, fun h => absurd rfl h.1⟩
        · rw [if_neg (by omega)]
          exact ⟨fun h => ⟨Ne.symm e2, h⟩, fun h => h.2⟩
  · have e : (if 1 ≤ v ∧ v < (act.length : Int) then (0 : Int) else 110) = 110 := if_neg (by omega)
    have e1 : ((110 : Int) != 0) = true := rfl
    simp only [e, e1, brB_true]
    refine hK _ _ ⟨(if_neg hv).symm, ?_⟩
    rw [List.erase_of_not_mem]
    · exact rep.keeps
    · rw [mem_srt, c.mem]; omega

theorem peekR_c {h : Heap} {S : List Nat} {o n : Nat} {act : List Int} {step : Int} {L : List Int} (r : Rep h S o n act step L) :
    callT Try.prog fn_order_Order_Peek #[.pointer (pt o)] (.tup (.cons (.int .i64) (.cons .bool .nil))) (fun x h' => x = (L.headD 0, decide (0 < L.length), ()) ∧ h' = h) h := by
  obtain ⟨ab, hb, pb, H, Pl, rfl, r, c, hp, hl, hn, rfl, hbl⟩ := r
  rw [srt_head c hp, length_srt]
  exact peek_c r

theorem Rep.mem {h : Heap} {S : List Nat} {o n : Nat} {act : List Int} {step : Int} {L : List Int} (r : Rep h S o n act step L) : ∀ x ∈ L, 1 ≤ x ∧ x ≤ n := by
  obtain ⟨ab, hb, pb, H, Pl, rfl, r, c, hp, hl, hn, rfl, hbl⟩ := r
  intro x hx
  rw [mem_srt, c.mem] at hx; omega
theorem Rep.sorted {h : Heap} {S : List Nat} {o n : Nat} {act : List Int} {step : Int} {L : List Int} (r : Rep h S o n act step L) : Sorted act L := by
  obtain ⟨ab, hb, pb, H, Pl, rfl, r, c, hp, hl, hn, rfl, hbl⟩ := r
  exact srt_sorted c.nodup
theorem Rep.len {h : Heap} {S : List Nat} {o n : Nat} {act : List Int} {step : Int} {L : List Int} (r : Rep h S o n act step L) : act.length = n + 1 ∧ n ≤ 1048576 ∧ L.length ≤ n := by
  obtain ⟨ab, hb, pb, H, Pl, rfl, r, c, hp, hl, hn, rfl, hbl⟩ := r
  exact ⟨hl, hn, by rw [length_srt]; exact c.length_le⟩

theorem pop_c {h : Heap} {S : List Nat} {o n : Nat} {act : List Int} {step : Int} {L : List Int} (r : Rep h S o n act step L) :
    callT Try.prog fn_order_Order_Pop #[.pointer (pt o)] (.tup (.cons (.int .i64) (.cons .bool .nil))) (fun x h' => x = (L.headD 0, decide (0 < L.length), ()) ∧ Keeps h S o n act step L.tail h') h := by
  refine callT_gen fun K hK => ?_
  apply S_order_Order_Pop
  unfold F_order_Order_Pop
  refine call_of (peekR_c r) ?_
  rintro x h' ⟨rfl, rfl⟩
  refine jn_in fun J hJ => ?_
  cases L with
  | nil =>
    refine hJ _ _ (hK _ _ ⟨rfl, r.keeps⟩)
  | cons y ys =>
    refine call_of (remove_c r y) ?_
    rintro _ h2 ⟨_, t⟩
    refine hJ _ _ (hK _ _ ⟨rfl, ?_⟩)
    rwa [List.erase_cons_head] at t

end Go.Proofs.Ord
