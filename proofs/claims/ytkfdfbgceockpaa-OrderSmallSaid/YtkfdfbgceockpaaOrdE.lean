/-
  An order as a whole: Push, Remove, Pop.
-/
import Derived.Test.YtkfdfbgceockpaaOrdC
import Derived.Test.YtkfdfbgceockpaaOrdQ
set_option linter.unusedVariables false
set_option linter.unusedSimpArgs false
set_option linter.unusedSectionVars false
namespace Go.Proofs.Ord
open Go Go.Sx Go.Proofs

/-- A slice that is the head of a row of its own. -/
def ISl (h : Heap) (b : Nat) (xs : List Int) (s : Sl) : Prop := ∃ rest : List Value, s = ⟨pt b, xs.length, xs.length + rest.length⟩ ∧ Blk h b 3 (ints xs ++ rest)
/-- Or one that has nothing, and no room. -/
def ISl0 (h : Heap) (b : Nat) (xs : List Int) (s : Sl) : Prop := ISl h b xs s ∨ (xs = [] ∧ s.len = 0 ∧ s.cap = 0)

theorem CellsAt_blk {h : Heap} {b i : Nat} {t : TypeId} : ∀ (vs : List Value) {c : List Value} (hb : Blk h b t c) (off : Nat), (∀ j, j < vs.length → c[i + off + j]? = vs[j]?) → CellsAt h ⟨b, i, none⟩ off vs
  | [], c, hb, off, hv => trivial
  | v :: vs, c, hb, off, hv => by
    refine ⟨?_, CellsAt_blk vs hb (off + 1) fun j hj => ?_⟩
    · rw [addr_add, cell_blk hb]; simpa using hv 0 (by simp)
    · have := hv (j + 1) (by simp; omega)
      rw [show i + (off + 1) + j = i + off + (j + 1) by omega]; simpa using this

theorem FirstCells_one {h : Heap} {b : Nat} {t : TypeId} {v : Value} (hb : Blk h b t [v]) : FirstCells h (pt b) (1 * 1) [v] :=
  ⟨rfl, CellsAt_blk [v] hb 0 (by intro j hj; simp at hj; subst hj; rfl)⟩

theorem apd_ok {h : Heap} {b bx : Nat} {xs : List Int} {s : Sl} {v : Int} {K : Sl → HP} (hs : ISl0 h b xs s) (hx : Blk h bx 3 [.int .i64 v]) (hlen : xs.length ≤ 2000000)
    (hK : ∀ s' h' b', ISl h' b' (xs ++ [v]) s' → ((b' = b ∧ Ext [b] h h' ∧ 0 < s.cap) ∨ (b' = h.size ∧ Ext [] h h')) → K s' h') :
    apd 3 1 8 #[.int .i64 0] s ⟨pt bx, 1, 1⟩ K h := by
  have hx' := FirstCells_one hx
  rcases hs with ⟨rest, rfl, hb⟩ | ⟨rfl, h1, h2⟩
  · refine ⟨_, hx', fun hle => ?_, fun hgt => ?_⟩
    · simp only [stA, leafB, addr_add, Nat.mul_one, Nat.zero_add, Nat.add_zero] at hle ⊢
      rw [st_ok hb (by simp; omega)]
      cases rest with
      | nil => exact absurd hle (by simp)
      | cons r rs =>
        have hb2 := hb.set xs.length (.int .i64 v)
        refine hK _ _ b ⟨rs, by simp; omega, ?_⟩ (.inl ⟨rfl, (Ext.refl _ _).set _ _ (by simp), by simp; omega⟩)
        rw [List.set_append_right _ _ (by simp)] at hb2
        simpa using hb2
    · simp only at hgt ⊢
      have hr : rest = [] := by
        cases rest with
        | nil => rfl
        | cons _ _ => simp at hgt
      subst hr
      refine ⟨by omega, by omega, ints xs, ⟨by simp, CellsAt_blk _ hb 0 (by intro j hj; simp)⟩, fun nc h1 h2 => ?_⟩
      have hn := Blk.new h 3 ((ints xs).toArray ++ #[Value.int .i64 v] ++ Builtin.zeroCells #[.int .i64 0] (nc - (xs.length + 1)))
      refine hK _ _ h.size ⟨(Builtin.zeroCells #[.int .i64 0] (nc - (xs.length + 1))).toList, ?_, ?_⟩ (.inr ⟨rfl, (Ext.refl _ _).push _⟩)
      · simp [Builtin.zeroCells]; omega
      · simpa using hn
  · obtain ⟨a, l, cp⟩ := s
    simp only at h1 h2; subst h1; subst h2
    refine ⟨_, hx', fun hle => by simp at hle, fun hgt => ?_⟩
    refine ⟨by simp, by omega, [], ?_, fun nc h1 h2 => ?_⟩
    · cases a with
      | none => rfl
      | some a => exact ⟨rfl, trivial⟩
    · have hn := Blk.new h 3 (([] : List Value).toArray ++ #[Value.int .i64 v] ++ Builtin.zeroCells #[.int .i64 0] (nc - (0 + 1)))
      refine hK _ _ h.size ⟨(Builtin.zeroCells #[.int .i64 0] (nc - (0 + 1))).toList, ?_, ?_⟩ (.inr ⟨rfl, (Ext.refl _ _).push _⟩)
      · simp [Builtin.zeroCells]; omega
      · simpa using hn

/-- An order of n variables: the blocks S, what is in, sorted. -/
def Rep (h : Heap) (S : List Nat) (o n : Nat) (act : List Int) (step : Int) (L : List Int) : Prop :=
  ∃ ab hb pb H Pl, S = [o, ab, hb, pb] ∧ Raw h o ab hb pb act H Pl step ∧ Cons H Pl n ∧ Heaped act H ∧ act.length = n + 1 ∧ n ≤ 1048576 ∧ L = srt act H ∧ hb < h.size

theorem Raw.ext {h h' : Heap} {S : List Nat} {o ab hb pb : Nat} {act H Pl : List Int} {step : Int} (r : Raw h o ab hb pb act H Pl step) (he : Ext S h h') (hd : ∀ b ∈ [o, ab, hb, pb], b ∉ S) : Raw h' o ab hb pb act H Pl step := by
  rcases r with ⟨ra, rh, rp, r⟩ | ⟨e, ra, rp, ha, r⟩
  · exact .inl ⟨ra, rh, rp, r.ext he (hd _ (by simp)) (hd _ (by simp)) (hd _ (by simp)) (hd _ (by simp))⟩
  · exact .inr ⟨e, ra, rp, ha, r.ext he (hd _ (by simp)) (hd _ (by simp)) (hd _ (by simp))⟩

theorem Raw.off {h h' : Heap} {m : Nat} {B : List Nat} {o ab hb pb : Nat} {act H Pl : List Int} {step : Int} (r : Raw h o ab hb pb act H Pl step) (he : OffL m B h h') : Raw h' o ab hb pb act H Pl step := by
  rcases r with ⟨ra, rh, rp, r⟩ | ⟨e, ra, rp, ha, r⟩
  · exact .inl ⟨ra, rh, rp, r.off he⟩
  · exact .inr ⟨e, ra, rp, ha, r.off he⟩

theorem Raw.marked {h h' : Heap} {m : Nat} {o ab hb pb : Nat} {act H Pl : List Int} {step : Int} (r : Raw h o ab hb pb act H Pl step) (he : Marked m h h') : Raw h' o ab hb pb act H Pl step := by
  rcases r with ⟨ra, rh, rp, r⟩ | ⟨e, ra, rp, ha, r⟩
  · exact .inl ⟨ra, rh, rp, r.marked he⟩
  · exact .inr ⟨e, ra, rp, ha, r.marked he⟩

theorem Rep.ext {h h' : Heap} {S T : List Nat} {o n : Nat} {act : List Int} {step : Int} {L : List Int} (r : Rep h S o n act step L) (he : Ext T h h') (hd : ∀ b ∈ S, b ∉ T) : Rep h' S o n act step L := by
  obtain ⟨ab, hb, pb, H, Pl, rfl, r, rest⟩ := r
  exact ⟨ab, hb, pb, H, Pl, rfl, r.ext he hd, rest.1, rest.2.1, rest.2.2.1, rest.2.2.2.1, rest.2.2.2.2.1, Nat.lt_of_lt_of_le rest.2.2.2.2.2 he.1⟩
theorem Rep.off {h h' : Heap} {m : Nat} {B : List Nat} {S : List Nat} {o n : Nat} {act : List Int} {step : Int} {L : List Int} (r : Rep h S o n act step L) (he : OffL m B h h') : Rep h' S o n act step L := by
  obtain ⟨ab, hb, pb, H, Pl, rfl, r, rest⟩ := r
  exact ⟨ab, hb, pb, H, Pl, rfl, r.off he, rest.1, rest.2.1, rest.2.2.1, rest.2.2.2.1, rest.2.2.2.2.1, he.1 ▸ rest.2.2.2.2.2⟩
theorem Rep.marked {h h' : Heap} {m : Nat} {S : List Nat} {o n : Nat} {act : List Int} {step : Int} {L : List Int} (r : Rep h S o n act step L) (he : Marked m h h') : Rep h' S o n act step L := by
  obtain ⟨ab, hb, pb, H, Pl, rfl, r, rest⟩ := r
  exact ⟨ab, hb, pb, H, Pl, rfl, r.marked he, rest.1, rest.2.1, rest.2.2.1, rest.2.2.2.1, rest.2.2.2.2.1, he.1 ▸ rest.2.2.2.2.2⟩
theorem Rep.lt {h : Heap} {S : List Nat} {o n : Nat} {act : List Int} {step : Int} {L : List Int} (r : Rep h S o n act step L) : ∀ b ∈ S, b < h.size := by
  obtain ⟨ab, hb, pb, H, Pl, rfl, r, rest⟩ := r
  obtain ⟨ha, ch, ra, rp, rc⟩ := r.common
  have := rc.O.lt; have := rc.A.lt; have := rc.P.lt; have := rest.2.2.2.2.2
  intro b hb; simp at hb; omega

/-- A call that turns an order. -/
def Turns (h : Heap) (S : List Nat) (o n : Nat) (act : List Int) (step : Int) (L : List Int) (h' : Heap) : Prop :=
  ∃ S', Rep h' S' o n act step L ∧ Ext S h h' ∧ Foot S S' h

/-- The same, and it keeps its blocks. -/
def Keeps (h : Heap) (S : List Nat) (o n : Nat) (act : List Int) (step : Int) (L : List Int) (h' : Heap) : Prop := Rep h' S o n act step L ∧ Ext S h h'
theorem Keeps.turns {h h' : Heap} {S : List Nat} {o n : Nat} {act : List Int} {step : Int} {L : List Int} (k : Keeps h S o n act step L h') : Turns h S o n act step L h' := ⟨S, k.1, k.2, fun b hb => .inl hb⟩
theorem Rep.keeps {h : Heap} {S : List Nat} {o n : Nat} {act : List Int} {step : Int} {L : List Int} (r : Rep h S o n act step L) : Keeps h S o n act step L h := ⟨r, Ext.refl _ _⟩
theorem Rep.turns {h : Heap} {S : List Nat} {o n : Nat} {act : List Int} {step : Int} {L : List Int} (r : Rep h S o n act step L) : Turns h S o n act step L h := ⟨S, r, Ext.refl _ _, fun b hb => .inl hb⟩

def pushL (act : List Int) (n : Nat) (v : Int) (L : List Int) : List Int := if 1 ≤ v ∧ v ≤ n ∧ v ∉ L then srt act (v :: L) else L

theorem push_up {h h0 : Heap} {o ab hb hb' pb : Nat} {act H Pl : List Int} {step : Int} {ra rh rp : List Value} {n v : Nat}
    (r : RawH h o ab hb' pb act (H ++ [(v : Int)]) (Pl.set v H.length) step ra rh rp) (c : Cons H Pl n) (hp : Heaped act H) (hl : act.length = n + 1) (hn : n ≤ 1048576) (h1 : 1 ≤ v) (h2 : v ≤ n) (h3 : g Pl v < 0)
    (x : Ext [o, ab, hb, pb] h0 h) (hf : hb' = hb ∨ h0.size ≤ hb') :
    callT Try.prog fn_order_Order_up #[.pointer (pt o), .int .i64 H.length] (.tup .nil) (fun _ h' => Turns h0 [o, ab, hb, pb] o n act step (srt act (v :: srt act H)) h') h := by
  have c1 := c.snoc h1 h2 h3
  have hlen := c1.length_le
  simp only [List.length_append, List.length_singleton] at hlen
  refine call_of (up_c r c1 hl (i := H.length) (by simp) (hp.snoc _).1 (by simp; omega)) ?_
  rintro _ h' ⟨H', Pl', cur, r', cl, uo, xx⟩
  have hd := cl.down (hp.snoc _).2
  have hh : Heaped act H' := cl.hole.heaped uo hd
  refine ⟨[o, ab, hb', pb], ⟨ab, hb', pb, H', Pl', rfl, .inl ⟨ra, rh, rp, r'⟩, cl.cons, hh, hl, hn, ?_, r'.Hh.lt⟩, x.trans xx ?_, ?_⟩
  · have p1 : H'.Perm (H ++ [(v : Int)]) := c1.perm cl.cons cl.same
    refine srt_congr ?_ ?_
    · rw [List.nodup_cons]
      refine ⟨?_, (srt_sorted c.nodup).nodup⟩
      rw [mem_srt, c.mem]; simp; omega
    · refine (List.Perm.cons _ (srt_perm act H)).trans (p1.trans ?_).symm
      exact List.perm_append_singleton _ _
  · intro b hb; simp at hb ⊢; omega
  · intro b hb; simp at hb ⊢; omega

theorem push_c {h : Heap} {S : List Nat} {o n : Nat} {act : List Int} {step : Int} {L : List Int} (r : Rep h S o n act step L) (v : Int) :
    callT Try.prog fn_order_Order_Push #[.pointer (pt o), .int .i64 v] (.int .i64)
      (fun x h' => x = (if 1 ≤ v ∧ v ≤ n then 0 else 110) ∧ Turns h S o n act step (pushL act n v L) h') h := by
  have rep := r
  obtain ⟨ab, hb, pb, H, Pl, rfl, r, c, hp, hl, hn, rfl, hbl⟩ := r
  obtain ⟨ha, ch, ra, rp, rc⟩ := r.common
  refine callT_gen fun K hK => ?_
  apply S_order_Order_Push
  unfold F_order_Order_Push
  refine call_of (wrong_c rc v) ?_
  rintro w h' ⟨rfl, rfl⟩
  by_cases hv : 1 ≤ v ∧ v ≤ n
  · have e : (if 1 ≤ v ∧ v < (act.length : Int) then (0 : Int) else 110) = 0 := if_pos (by omega)
    have e1 : ((0 : Int) != 0) = false := rfl
    obtain ⟨k, rfl⟩ : ∃ k : Nat, v = k := ⟨v.toNat, by omega⟩
    have hpl := c.len
    simp only [e, e1, brB_false, nn_some, addr_add, rc.l2, rdn rc.P (k := k) (show k < Pl.length by omega)]
    have end_ : ∀ h2, Turns h' [o, ab, hb, pb] o n act step (pushL act n k (srt act H)) h2 → K 0 h2 := fun h2 t => hK _ _ ⟨(if_pos hv).symm, t⟩
    refine jn_in fun J hJ => ?_
    by_cases hin : g Pl k < 0
    · have e : decide (g Pl k < 0) = true := by simpa using hin
      have epush : pushL act n k (srt act H) = srt act (k :: srt act H) := by
        unfold pushL; rw [if_pos]
        refine ⟨hv.1, hv.2, ?_⟩
        rw [mem_srt, c.mem]; simp; omega
      simp only [e, brB_true, nn_some, addr_add, rc.l2, rc.l1, wrn rc.P (k := k) (show k < Pl.length by omega)]
      have rc1 := rc.setPl (i := k) (H.length : Int) (by omega)
      simp only [rc1.l1, nw_eq]
      have x1 : Ext [o, ab, hb, pb] h' (setC h' ⟨pb, k, none⟩ (.int .i64 H.length)) := (Ext.refl _ _).set _ _ (by simp)
      have s1 : (setC h' ⟨pb, k, none⟩ (.int .i64 H.length)).size = h'.size := by simp
      have is1 : ISl0 (setC h' ⟨pb, k, none⟩ (.int .i64 H.length)) hb H ⟨ha, H.length, ch⟩ ∧ (0 < ch → o ≠ hb ∧ ab ≠ hb ∧ pb ≠ hb) := by
        rcases r with ⟨ra', rh', rp', r⟩ | ⟨e0, ra', rp', ha', r⟩
        · have eO := rc.O.inj r.O
          simp at eO
          obtain ⟨_, ⟨e3, e4⟩, _⟩ := eO
          subst e3; subst e4
          exact ⟨.inl ⟨rh', rfl, r.Hh.set_ne _ (Ne.symm r.ph)⟩, fun _ => ⟨r.oh, r.ah, r.ph⟩⟩
        · subst e0
          have eO := rc.O.inj r.O
          simp at eO
          exact ⟨.inr ⟨rfl, rfl, eO.2.1.2⟩, fun h => by rw [eO.2.1.2] at h; omega⟩
      obtain ⟨is1, hne⟩ := is1
      generalize setC h' ⟨pb, k, none⟩ (.int .i64 H.length) = h1 at *
      have x2 := x1.push (.cells #[.int .i64 k] 3)
      have xb := (Ext.refl [] h1).push (.cells #[.int .i64 k] 3)
      have kb := Blk.new h1 3 #[.int .i64 k]
      have rc2 := rc1.ext xb (by simp) (by simp) (by simp)
      have is2 : ISl0 (h1.push (.cells #[.int .i64 k] 3)) hb H ⟨ha, H.length, ch⟩ := by
        rcases is1 with ⟨rest, e, hb'⟩ | h0
        · exact .inl ⟨rest, e, hb'.ext xb (by simp)⟩
        · exact .inr h0
      have s2 : (h1.push (.cells #[.int .i64 k] 3)).size = h1.size + 1 := by simp
      generalize h1.push (.cells #[.int .i64 k] 3) = h2 at *
      have hlen := c.length_le
      refine apd_ok is2 kb (by omega) ?_
      rintro s' h3 b' ⟨rest, rfl, hb3⟩ hwh
      have olt := rc2.O.lt
      have alt := rc2.A.lt
      have plt := rc2.P.lt
      have hd3 : o ≠ b' ∧ ab ≠ b' ∧ pb ≠ b' := by
        rcases hwh with ⟨rfl, _, hcap⟩ | ⟨rfl, _⟩
        · exact hne hcap
        · omega
      have hx3 : Ext [hb] h2 h3 := by
        rcases hwh with ⟨_, hx, _⟩ | ⟨_, hx⟩
        · exact hx
        · exact hx.mono (by simp)
      have rc3 : RawC h3 o ab pb act (Pl.set k H.length) step ha H.length ch ra rp := by
        rcases hwh with ⟨rfl, hx, hcap⟩ | ⟨rfl, hx⟩
        · exact rc2.ext hx (by simp; omega) (by simp; omega) (by simp; omega)
        · exact rc2.ext hx (by simp) (by simp) (by simp)
      have x3 := x2.trans hx3 (by intro b hb; simp at hb ⊢; omega)
      simp only [nn_some, addr_add]
      rw [Nat.zero_add, st_ok rc3.O (by simp)]
      have rc4 := rc3.setHeap (pt b') (H ++ [(k : Int)]).length ((H ++ [(k : Int)]).length + rest.length)
      have x4 := x3.set ⟨o, 1, none⟩ (.slice (pt b') (H ++ [(k : Int)]).length ((H ++ [(k : Int)]).length + rest.length)) (by simp)
      have hb4 := hb3.set_ne (a := ⟨o, 1, none⟩) (.slice (pt b') (H ++ [(k : Int)]).length ((H ++ [(k : Int)]).length + rest.length)) (Ne.symm hd3.1)
      have rh4 : RawH _ o ab b' pb act (H ++ [(k : Int)]) (Pl.set k H.length) step ra rest rp := ⟨rc4, hb4, hd3.1, hd3.2.1, hd3.2.2⟩
      have bsz : b' = hb ∨ h'.size ≤ b' := by
        rcases hwh with ⟨rfl, _⟩ | ⟨rfl, _⟩
        · exact .inl rfl
        · exact .inr (by omega)
      generalize setC h3 ⟨o, 1, none⟩ (.slice (pt b') (H ++ [(k : Int)]).length ((H ++ [(k : Int)]).length + rest.length)) = h4 at *
      simp only [nn_some, addr_add, rc4.l2]
      rw [rdn rh4.P (k := k) (by simp; omega)]
      have eg : g (Pl.set k (H.length : Int)) k = H.length := by rw [g_set, if_pos ⟨rfl, by omega⟩]
      rw [eg]
      refine call_of (push_up rh4 c hp hl hn (by omega) (by omega) hin x4 bsz) ?_
      rintro _ h5 t
      exact hJ _ _ (end_ _ (epush ▸ t))
    · have e : decide (g Pl k < 0) = false := by simpa using hin
      simp only [e, brB_false]
      refine hJ _ _ (end_ _ ?_)
      have : pushL act n k (srt act H) = srt act H := by
        unfold pushL; rw [if_neg]; rintro ⟨_, _, hnot⟩
        apply hnot; rw [mem_srt, c.mem]; simp; omega
      rw [this]; exact rep.turns
  · have e : (if 1 ≤ v ∧ v < (act.length : Int) then (0 : Int) else 110) = 110 := if_neg (by omega)
    have e1 : ((110 : Int) != 0) = true := rfl
    simp only [e, e1, brB_true]
    refine hK _ _ ⟨(if_neg hv).symm, ?_⟩
    have : pushL act n v (srt act H) = srt act H := by
      unfold pushL; rw [if_neg]; rintro ⟨h1, h2, _⟩; exact hv ⟨h1, h2⟩
    rw [this]; exact rep.turns

end Go.Proofs.Ord
