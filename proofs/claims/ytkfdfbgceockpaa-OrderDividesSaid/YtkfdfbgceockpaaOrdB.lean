/-
  above, up, down: the heap is put right again.
-/
import Derived.Test.YtkfdfbgceockpaaOrdP
set_option linter.unusedVariables false
namespace Go.Proofs.Ord
open Go Go.Sx Go.Proofs

abbrev τi : Ty := .cons (.int .i64) .nil

/-- Where a climb stands. -/
def curOf (start : Int) : List (Int × Unit) → Int
  | [] => start
  | x :: r => curOf x.1 r

theorem curOf_snoc (x : Int × Unit) : ∀ (pre : List (Int × Unit)) (s : Int), curOf s (pre ++ [x]) = x.1
  | [], _ => rfl
  | y :: r, s => curOf_snoc x r y.1

theorem above_c (start : Int) (h : Heap) : callT Try.prog fn_order_above #[.int .i64 start] .val
    (fun r h' => r = .func (.func 66) #[] #[.pointer (pt h.size)] ∧ h' = h.push (.cells #[.int .i64 start] 3)) h := by
  refine callT_gen fun K hK => ?_
  apply S_order_above
  simp only [F_order_above, nw_eq]
  exact hK _ _ ⟨rfl, rfl⟩

theorem above_iter {h : Heap} {b : Nat} {start : Int} (h0 : 0 ≤ start) (h1 : start ≤ 9223372036854775807) (hb : Blk h b 3 [.int .i64 start]) :
    IterSpec Try.prog τi (.func (.func 66) #[] #[.pointer (pt b)]) h (fun pre x => 0 < curOf start pre ∧ x = ((curOf start pre - 1) / 2, ())) (fun pre => curOf start pre ≤ 0) [] [b] := by
  intro A D B0 hB0 sA sD yl hy hA
  have key : callF Try.prog (.func (.func 66) #[] #[.pointer (pt b)]) #[yl] (.tup .nil) (fun _ h2 => ∃ B', (∃ pre, curOf start pre ≤ 0 ∧ A pre B' h2) ∨ D B' h2) h := by
    refine callF_func (S_order_above_1 (a0 := yl) (c0 := ⟨b, 0, none⟩) _ ?_)
    unfold F_order_above_1
    refine lfp_invh (I := fun n _ h' => ∃ pre B, A pre B h' ∧ b ∉ B ∧ Blk h' b 3 [.int .i64 (curOf start pre)] ∧ 0 ≤ curOf start pre ∧ curOf start pre ≤ 9223372036854775807 ∧ n = (curOf start pre).toNat)
      ⟨_, [], B0, hA, fun hb0 => (hB0 b hb0).2.2 (by simp), hb, h0, h1, rfl⟩ ?_
    rintro n s h' X ⟨pre, B, hA, hbB, hb, c0, c1, rfl⟩ hX
    simp only [ld_int (i := 0) hb rfl]
    by_cases hc : curOf start pre > 0
    · have e1 : IntKind.wrap .i64 (curOf start pre - 1) = curOf start pre - 1 := wrap_i64 (by omega) (by omega)
      have e2 : Int.tdiv (curOf start pre - 1) 2 = (curOf start pre - 1) / 2 := Int.tdiv_eq_ediv_of_nonneg (by omega)
      have e3 : IntKind.wrap .i64 ((curOf start pre - 1) / 2) = (curOf start pre - 1) / 2 := wrap_i64 (by omega) (by omega)
      simp only [hc, decide_true, brB_true, ld_int (i := 0) hb rfl, nz_ok (show (2 : Int) ≠ 0 by decide), e1, e2, e3]
      rw [st_ok hb (by simp)]
      have hb' := hb.set 0 (.int .i64 ((curOf start pre - 1) / 2))
      rw [ld_int (i := 0) hb' rfl]
      have hA' := sA pre B h' (setC h' ⟨b, 0, none⟩ (.int .i64 ((curOf start pre - 1) / 2))) [b] hA ((Ext.refl _ _).set _ _ (by simp)) (by
        intro t ht; simp at ht; subst ht; exact ⟨hbB, .inr (by simp)⟩)
      refine CallV.mono (hy pre ((curOf start pre - 1) / 2, ()) B _ ⟨hc, rfl⟩ hA') ?_
      rintro v h2 ⟨B', hF, hE, hv⟩
      have hb2 := hb'.extC hE hbB
      have hbB' : b ∉ B' := fun hin => (hF b hin).elim hbB (fun hl => by have := hb'.lt; omega)
      rcases hv with ⟨rfl, hA2⟩ | ⟨rfl, hD⟩
      · refine ⟨true, rfl, ?_⟩
        simp only [Bool.not_true, brB_false]
        refine hX _ _ _ ⟨pre ++ [((curOf start pre - 1) / 2, ())], B', hA2, hbB', ?_, ?_, ?_, rfl⟩ ?_
        · rw [curOf_snoc]; exact hb2
        all_goals rw [curOf_snoc]; simp only []; omega
      · refine ⟨false, rfl, ?_⟩
        simp only [Bool.not_false, brB_true]
        exact ⟨B', .inr hD⟩
    · simp only [hc, decide_false, brB_false]
      exact ⟨B, .inl ⟨pre, by omega, hA⟩⟩
  exact CallV.mono key fun v h2 ⟨_, _, r⟩ => r

theorem round_done {n : Nat} {B S : List Nat} {h h1 h2 : Heap} (ho : OffL n B h h1) (he : Ext S h1 h2) (hS : ∀ s ∈ S, s ∈ B ∨ h.size ≤ s) : ExtC B h h2 := by
  obtain ⟨hs, l, hl, hlB, hc, hc', hk⟩ := ho
  refine ⟨by have := he.1; omega, fun b hb hbB hcb => ?_⟩
  rw [he.2 b (by omega) (fun hin => (hS b hin).elim hbB (fun h => by omega)), hk b (fun e => hc (e ▸ hcb))]

theorem RawC.off {h h' : Heap} {n : Nat} {B : List Nat} {o ab pb : Nat} {ha : Option Addr} {lh ch : Nat} {act Pl : List Int} {step : Int} {ra rp : List Value}
    (r : RawC h o ab pb act Pl step ha lh ch ra rp) (ho : OffL n B h h') : RawC h' o ab pb act Pl step ha lh ch ra rp :=
  ⟨r.O.off ho, r.A.off ho, r.P.off ho, r.oa, r.op, r.ap⟩
theorem RawH.off {h h' : Heap} {n : Nat} {B : List Nat} {o ab hb pb : Nat} {act H Pl : List Int} {step : Int} {ra rh rp : List Value}
    (r : RawH h o ab hb pb act H Pl step ra rh rp) (ho : OffL n B h h') : RawH h' o ab hb pb act H Pl step ra rh rp :=
  ⟨r.toRawC.off ho, r.Hh.off ho, r.oh, r.ah, r.ph⟩
theorem RawC.marked {h h' : Heap} {n : Nat} {o ab pb : Nat} {ha : Option Addr} {lh ch : Nat} {act Pl : List Int} {step : Int} {ra rp : List Value}
    (r : RawC h o ab pb act Pl step ha lh ch ra rp) (ho : Marked n h h') : RawC h' o ab pb act Pl step ha lh ch ra rp :=
  ⟨r.O.marked ho, r.A.marked ho, r.P.marked ho, r.oa, r.op, r.ap⟩
theorem RawH.marked {h h' : Heap} {n : Nat} {o ab hb pb : Nat} {act H Pl : List Int} {step : Int} {ra rh rp : List Value}
    (r : RawH h o ab hb pb act H Pl step ra rh rp) (ho : Marked n h h') : RawH h' o ab hb pb act H Pl step ra rh rp :=
  ⟨r.toRawC.marked ho, r.Hh.marked ho, r.oh, r.ah, r.ph⟩

section
variable (act H Pl : List Int) (n : Nat) (i : Nat)
/-- Where a climb of what stood at i stands: the row H, the places Pl, with it put at cur. -/
structure Climb (H' Pl' : List Int) (cur : Nat) : Prop where
  cons : Cons H' Pl' n
  same : Same Pl Pl'
  len : H'.length = H.length
  lt : cur < H.length
  at_ : g H' cur = g H i
  hole : Hole act H' cur
  down : DownOk act H i → DownOk act H' cur
end

theorem Climb.up {act H Pl H' Pl' : List Int} {n i cur : Nat} (c : Climb act H Pl n i H' Pl' cur) (h0 : 0 < cur) (hb : bef act (g H' cur) (g H' (par cur)) = true) :
    Climb act H Pl n i ((H'.set cur (g H' (par cur))).set (par cur) (g H' cur)) ((Pl'.set (g H' (par cur)).toNat cur).set (g H' cur).toNat (par cur)) (par cur) := by
  have d := par_def cur
  have hlt := c.lt
  have hl := c.len
  have hi : cur < H'.length := by omega
  have hp : par cur < H'.length := by omega
  obtain ⟨k1, k2⟩ := c.hole.up h0 hi hb
  refine ⟨c.cons.swap hi hp (by omega), c.same.trans (c.cons.swap_same hi hp (by omega)), by simp [hl], by omega, ?_, k1, fun _ => k2⟩
  rw [g_swap hi hp, if_pos rfl]; exact c.at_

/-- The cells lag behind by one: what climbs is not put yet. -/
theorem set_lag {Hm : List Int} {cur p : Nat} {v : Int} (hp : p < Hm.length) (hne : cur ≠ p) (hc : cur < Hm.length) :
    (Hm.set cur (g Hm p)).set p v = (((Hm.set cur v).set cur (g (Hm.set cur v) p)).set p (g (Hm.set cur v) cur)) := by
  have e1 : g (Hm.set cur v) p = g Hm p := by rw [g_set, if_neg (by omega)]
  have e2 : g (Hm.set cur v) cur = v := by rw [g_set, if_pos ⟨rfl, hc⟩]
  rw [e1, e2, List.set_set]

theorem set_lagP {Pm : List Int} {cur p u v : Nat} (hne : u ≠ v) :
    (Pm.set u (cur : Int)).set v (p : Int) = ((Pm.set v (cur : Int)).set u (cur : Int)).set v (p : Int) := by
  rw [List.set_comm _ _ (Ne.symm hne), List.set_set]

end Go.Proofs.Ord
