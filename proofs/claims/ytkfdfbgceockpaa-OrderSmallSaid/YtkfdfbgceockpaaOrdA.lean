/-
  package order: contracts of its small functions, over rows of memory.
-/
import Derived.Test.YtkfdfbgceockpaaSxH
import Derived.Test.YtkfdfbgceockpaaOrdF
set_option linter.unusedVariables false
set_option linter.unusedSimpArgs false
set_option linter.unusedSectionVars false
namespace Go.Proofs.Ord
open Go Go.Sx Go.Proofs

abbrev ints (xs : List Int) : List Value := xs.map (.int .i64)
abbrev pt (b : Nat) : Option Addr := some ⟨b, 0, none⟩

def g (xs : List Int) (i : Nat) : Int := xs.getD i 0

theorem g_set {xs : List Int} {i j : Nat} {v : Int} : g (xs.set i v) j = if i = j ∧ j < xs.length then v else g xs j := by
  simp only [g, List.getD_eq_getElem?_getD, List.getElem?_set]
  by_cases h : i = j
  · subst h
    by_cases h2 : i < xs.length
    · simp [h2]
    · simp [h2]
  · simp [h]

theorem getE_ints {xs : List Int} {rest : List Value} {i : Nat} (hi : i < xs.length) : (ints xs ++ rest)[i]? = some (.int .i64 (g xs i)) := by
  rw [List.getElem?_append_left (by simpa using hi)]
  simp [g, List.getD_eq_getElem?_getD, hi]

theorem set_ints {xs : List Int} {rest : List Value} {i : Nat} {v : Int} (hi : i < xs.length) : (ints xs ++ rest).set i (.int .i64 v) = ints (xs.set i v) ++ rest := by
  rw [List.set_append_left _ _ (by simpa using hi)]
  simp [List.map_set]

theorem rd_ints {h : Heap} {b : Nat} {xs : List Int} {rest : List Value} (hb : Blk h b 3 (ints xs ++ rest)) {j : Int} {K : Int → HP} (h0 : 0 ≤ j) (h1 : j < (xs.length : Int)) :
    sx (pt b) xs.length j 1 (fun p => ldT (.int .i64) p K) h = K (g xs j.toNat) h := by
  rw [sx_ok h0 h1, addr_add, Nat.mul_one, Nat.zero_add, ld_int hb (getE_ints (by omega))]

theorem wr_ints {h : Heap} {b : Nat} {xs : List Int} {rest : List Value} (hb : Blk h b 3 (ints xs ++ rest)) {j : Int} {v : Value} {K : HP} (h0 : 0 ≤ j) (h1 : j < (xs.length : Int)) :
    sx (pt b) xs.length j 1 (fun p => st1 p v K) h = K (setC h ⟨b, j.toNat, none⟩ v) := by
  rw [sx_ok h0 h1, addr_add, Nat.mul_one, Nat.zero_add, st_ok hb (by simp; omega)]

theorem rdn {h : Heap} {b : Nat} {xs : List Int} {rest : List Value} (hb : Blk h b 3 (ints xs ++ rest)) {k : Nat} {K : Int → HP} (h1 : k < xs.length) :
    sx (pt b) xs.length (k : Int) 1 (fun p => ldT (.int .i64) p K) h = K (g xs k) h := by
  rw [rd_ints hb (by omega) (by omega), Int.toNat_natCast]

theorem wrn {h : Heap} {b : Nat} {xs : List Int} {rest : List Value} (hb : Blk h b 3 (ints xs ++ rest)) {k : Nat} {v : Value} {K : HP} (h1 : k < xs.length) :
    sx (pt b) xs.length (k : Int) 1 (fun p => st1 p v K) h = K (setC h ⟨b, k, none⟩ v) := by
  rw [wr_ints hb (by omega) (by omega), Int.toNat_natCast]

theorem Blk.set_ints {h : Heap} {b : Nat} {xs : List Int} {rest : List Value} (hb : Blk h b 3 (ints xs ++ rest)) {i : Nat} (v : Int) (hi : i < xs.length) : Blk (setC h ⟨b, i, none⟩ (.int .i64 v)) b 3 (ints (xs.set i v) ++ rest) := by
  have := hb.set i (.int .i64 v)
  rwa [Ord.set_ints hi] at this

theorem callT_gen {P : Program} {f : FuncId} {args : Array Value} {τ : Ty} {R : τ.T → HP} {h : Heap} (hc : ∀ K : τ.T → HP, (∀ x h', R x h' → K x h') → callT P f args τ K h) : callT P f args τ R h := hc R fun _ _ r => r
theorem Ext.refl (S : List Nat) (h : Heap) : Ext S h h := ⟨Nat.le_refl _, fun _ _ _ => rfl⟩

/-- Does a come before b? -/
def bef (act : List Int) (a b : Int) : Bool := decide (g act a.toNat > g act b.toNat) || (g act a.toNat == g act b.toNat && decide (a < b))

theorem bef_iff {act : List Int} {a b : Int} : bef act a b = true ↔ g act a.toNat > g act b.toNat ∨ (g act a.toNat = g act b.toNat ∧ a < b) := by
  simp [bef]

/-- An order's own block, and its rows but the heap's. -/
structure RawC (h : Heap) (o ab pb : Nat) (act Pl : List Int) (step : Int) (ha : Option Addr) (lh ch : Nat) (ra rp : List Value) : Prop where
  O : Blk h o 56 [.slice (pt ab) act.length (act.length + ra.length), .slice ha lh ch, .slice (pt pb) Pl.length (Pl.length + rp.length), .int .i64 step, .bool true]
  A : Blk h ab 3 (ints act ++ ra)
  P : Blk h pb 3 (ints Pl ++ rp)
  oa : o ≠ ab
  op : o ≠ pb
  ap : ab ≠ pb

structure RawH (h : Heap) (o ab hb pb : Nat) (act H Pl : List Int) (step : Int) (ra rh rp : List Value) : Prop extends RawC h o ab pb act Pl step (pt hb) H.length (H.length + rh.length) ra rp where
  Hh : Blk h hb 3 (ints H ++ rh)
  oh : o ≠ hb
  ah : ab ≠ hb
  ph : pb ≠ hb

def Raw (h : Heap) (o ab hb pb : Nat) (act H Pl : List Int) (step : Int) : Prop :=
  (∃ ra rh rp, RawH h o ab hb pb act H Pl step ra rh rp) ∨ (H = [] ∧ ∃ ra rp ha, RawC h o ab pb act Pl step ha 0 0 ra rp)

theorem Raw.common {h : Heap} {o ab hb pb : Nat} {act H Pl : List Int} {step : Int} (r : Raw h o ab hb pb act H Pl step) : ∃ ha ch ra rp, RawC h o ab pb act Pl step ha H.length ch ra rp := by
  rcases r with ⟨ra, rh, rp, r⟩ | ⟨e, ra, rp, ha, r⟩
  · exact ⟨_, _, _, _, r.toRawC⟩
  · subst e; exact ⟨_, _, _, _, r⟩

theorem Raw.full {h : Heap} {o ab hb pb : Nat} {act H Pl : List Int} {step : Int} (r : Raw h o ab hb pb act H Pl step) (hn : 0 < H.length) : ∃ ra rh rp, RawH h o ab hb pb act H Pl step ra rh rp := by
  rcases r with r | ⟨e, _⟩
  · exact r
  · subst e; simp at hn

section
variable {h : Heap} {o ab pb hb : Nat} {ha : Option Addr} {lh ch : Nat} {act H Pl : List Int} {step : Int} {ra rh rp : List Value}

theorem RawC.l0 (r : RawC h o ab pb act Pl step ha lh ch ra rp) {K : Sl → HP} : ldT .sl ⟨o, 0, none⟩ K h = K ⟨pt ab, act.length, act.length + ra.length⟩ h := ld_sl (i := 0) r.O rfl
theorem RawC.l1 (r : RawC h o ab pb act Pl step ha lh ch ra rp) {K : Sl → HP} : ldT .sl ⟨o, 0 + 1, none⟩ K h = K ⟨ha, lh, ch⟩ h := ld_sl (i := 1) r.O rfl
theorem RawC.l2 (r : RawC h o ab pb act Pl step ha lh ch ra rp) {K : Sl → HP} : ldT .sl ⟨o, 0 + 2, none⟩ K h = K ⟨pt pb, Pl.length, Pl.length + rp.length⟩ h := ld_sl (i := 2) r.O rfl
theorem RawC.l3 (r : RawC h o ab pb act Pl step ha lh ch ra rp) {K : Int → HP} : ldT (.int .i64) ⟨o, 0 + 3, none⟩ K h = K step h := ld_int (i := 3) r.O rfl
theorem RawC.l4 (r : RawC h o ab pb act Pl step ha lh ch ra rp) {K : Bool → HP} : ldT .bool ⟨o, 0 + 4, none⟩ K h = K true h := ld_bool (i := 4) r.O rfl

theorem is_c (r : RawC h o ab pb act Pl step ha lh ch ra rp) : callT Try.prog fn_order_Order_is #[.pointer (pt o)] .bool (fun r h' => r = true ∧ h' = h) h := by
  apply S_order_Order_is
  simp only [F_order_Order_is, Option.isNone_some, Bool.not_false, brB_true, nn_some, addr_add, r.l4]
  exact ⟨trivial, trivial⟩

theorem wrong_c (r : RawC h o ab pb act Pl step ha lh ch ra rp) (v : Int) :
    callT Try.prog fn_order_Order_wrong #[.pointer (pt o), .int .i64 v] (.int .i64) (fun r h' => r = (if 1 ≤ v ∧ v < act.length then 0 else 110) ∧ h' = h) h := by
  apply S_order_Order_wrong
  unfold F_order_Order_wrong
  refine call_of (is_c r) ?_
  rintro b h' ⟨rfl, rfl⟩
  simp only [Bool.not_true, brB_false, nn_some]
  by_cases h1 : v < 1
  · simp only [h1, decide_true, brB_true]
    exact ⟨by rw [if_neg (by omega)], trivial⟩
  · simp only [h1, decide_false, brB_false, nn_some, r.l0]
    by_cases h2 : v ≥ (act.length : Int)
    · simp only [h2, decide_true, brB_true]
      exact ⟨by rw [if_neg (by omega)], trivial⟩
    · simp only [h2, decide_false, brB_false]
      exact ⟨by rw [if_pos (by omega)], trivial⟩

theorem before_c (r : RawC h o ab pb act Pl step ha lh ch ra rp) {a b : Int} (ha : 0 ≤ a ∧ a < act.length) (hb : 0 ≤ b ∧ b < act.length) :
    callT Try.prog fn_order_Order_before #[.pointer (pt o), .int .i64 a, .int .i64 b] .bool (fun r h' => r = bef act a b ∧ h' = h) h := by
  apply S_order_Order_before
  simp only [F_order_Order_before, nn_some, r.l0, rd_ints r.A ha.1 ha.2, rd_ints r.A hb.1 hb.2]
  unfold bef
  by_cases h1 : g act a.toNat > g act b.toNat
  · simp only [h1, decide_true, brB_true, Bool.true_or]; exact ⟨trivial, trivial⟩
  · simp only [h1, decide_false, brB_false, Bool.false_or]
    cases h2 : (g act a.toNat == g act b.toNat)
    · simp only [brB_false, Bool.false_and]; exact ⟨trivial, trivial⟩
    · simp only [brB_true, Bool.true_and]; exact ⟨trivial, trivial⟩

theorem step_c (r : RawC h o ab pb act Pl step ha lh ch ra rp) : callT Try.prog fn_order_Order_Step #[.pointer (pt o)] (.int .i64) (fun r h' => r = step ∧ h' = h) h := by
  apply S_order_Order_Step
  unfold F_order_Order_Step
  refine call_of (is_c r) ?_
  rintro b h' ⟨rfl, rfl⟩
  simp only [Bool.not_true, brB_false, nn_some, addr_add, r.l3]
  exact ⟨trivial, trivial⟩

theorem len_c (r : RawC h o ab pb act Pl step ha lh ch ra rp) : callT Try.prog fn_order_Order_Len #[.pointer (pt o)] (.int .i64) (fun r h' => r = lh ∧ h' = h) h := by
  apply S_order_Order_Len
  unfold F_order_Order_Len
  refine call_of (is_c r) ?_
  rintro b h' ⟨rfl, rfl⟩
  simp only [Bool.not_true, brB_false, nn_some, addr_add, r.l1]
  exact ⟨trivial, trivial⟩

theorem vars_c (r : RawC h o ab pb act Pl step ha lh ch ra rp) (h1 : 1 ≤ act.length) (h2 : act.length ≤ 2000000) : callT Try.prog fn_order_Order_Vars #[.pointer (pt o)] (.int .i64) (fun r h' => r = (act.length : Int) - 1 ∧ h' = h) h := by
  apply S_order_Order_Vars
  unfold F_order_Order_Vars
  refine call_of (is_c r) ?_
  rintro b h' ⟨rfl, rfl⟩
  simp only [Bool.not_true, brB_false, nn_some, addr_add, r.l0]
  exact ⟨wrap_i64 (by omega) (by omega), trivial⟩

theorem activity_c (r : RawC h o ab pb act Pl step ha lh ch ra rp) (v : Int) : callT Try.prog fn_order_Order_Activity #[.pointer (pt o), .int .i64 v] (.tup (.cons (.int .i64) (.cons (.int .i64) .nil)))
    (fun r h' => r = (if 1 ≤ v ∧ v < act.length then (g act v.toNat, 0, ()) else (0, 110, ())) ∧ h' = h) h := by
  apply S_order_Order_Activity
  unfold F_order_Order_Activity
  refine call_of (wrong_c r v) ?_
  rintro b h' ⟨rfl, rfl⟩
  by_cases hv : 1 ≤ v ∧ v < act.length
  · have e : ((0 : Int) != 0) = false := rfl
    simp only [if_pos hv, e, brB_false, nn_some, r.l0, rd_ints r.A (show 0 ≤ v by omega) hv.2]
    exact ⟨trivial, trivial⟩
  · have e : ((110 : Int) != 0) = true := rfl
    simp only [if_neg hv, e, brB_true]
    exact ⟨trivial, trivial⟩

theorem has_c (r : RawC h o ab pb act Pl step ha lh ch ra rp) (hl : Pl.length = act.length) (v : Int) : callT Try.prog fn_order_Order_Has #[.pointer (pt o), .int .i64 v] .bool
    (fun r h' => r = decide (1 ≤ v ∧ v < act.length ∧ 0 ≤ g Pl v.toNat) ∧ h' = h) h := by
  apply S_order_Order_Has
  unfold F_order_Order_Has
  refine call_of (wrong_c r v) ?_
  rintro b h' ⟨rfl, rfl⟩
  by_cases hv : 1 ≤ v ∧ v < act.length
  · have e : ((0 : Int) == 0) = true := rfl
    simp only [if_pos hv, e, brB_true, nn_some, addr_add, r.l2, rd_ints r.P (show 0 ≤ v by omega) (show v < Pl.length by omega)]
    exact ⟨by simp [hv.1, hv.2], trivial⟩
  · have e : ((110 : Int) == 0) = false := rfl
    simp only [if_neg hv, e, brB_false]
    refine ⟨?_, trivial⟩
    symm; rw [decide_eq_false_iff_not]; rintro ⟨a, b, _⟩; exact hv ⟨a, b⟩

theorem peek_c (r : Raw h o ab hb pb act H Pl step) : callT Try.prog fn_order_Order_Peek #[.pointer (pt o)] (.tup (.cons (.int .i64) (.cons .bool .nil)))
    (fun r h' => r = (H.headD 0, decide (0 < H.length), ()) ∧ h' = h) h := by
  obtain ⟨ha, ch, ra, rp, rc⟩ := r.common
  apply S_order_Order_Peek
  unfold F_order_Order_Peek
  refine call_of (is_c rc) ?_
  rintro b h' ⟨rfl, rfl⟩
  simp only [Bool.not_true, brB_false, nn_some, addr_add, rc.l1]
  cases H with
  | nil => exact ⟨rfl, rfl⟩
  | cons x xs =>
    obtain ⟨ra, rh, rp, r⟩ := r.full (by simp)
    have e : ((((x :: xs).length : Nat) : Int) == 0) = false := by simp; omega
    simp only [e, brB_false, nn_some, addr_add, r.toRawC.l1]
    rw [rd_ints r.Hh (j := 0) (by omega) (by simp)]
    exact ⟨by simp [g], rfl⟩

/-- An order's parts, behind a turn elsewhere. -/
theorem RawC.ext {h' : Heap} {S : List Nat} (r : RawC h o ab pb act Pl step ha lh ch ra rp) (he : Ext S h h') (h1 : o ∉ S) (h2 : ab ∉ S) (h3 : pb ∉ S) : RawC h' o ab pb act Pl step ha lh ch ra rp :=
  ⟨r.O.ext he h1, r.A.ext he h2, r.P.ext he h3, r.oa, r.op, r.ap⟩
theorem RawH.ext {h' : Heap} {S : List Nat} (r : RawH h o ab hb pb act H Pl step ra rh rp) (he : Ext S h h') (h1 : o ∉ S) (h2 : ab ∉ S) (h3 : hb ∉ S) (h4 : pb ∉ S) : RawH h' o ab hb pb act H Pl step ra rh rp :=
  ⟨r.toRawC.ext he h1 h2 h4, r.Hh.ext he h3, r.oh, r.ah, r.ph⟩

theorem RawC.setStep (r : RawC h o ab pb act Pl step ha lh ch ra rp) (s : Int) : RawC (setC h ⟨o, 3, none⟩ (.int .i64 s)) o ab pb act Pl s ha lh ch ra rp :=
  ⟨by have := r.O.set 3 (.int .i64 s); simpa using this, r.A.set_ne _ (Ne.symm r.oa), r.P.set_ne _ (Ne.symm r.op), r.oa, r.op, r.ap⟩
theorem RawC.setHeap (r : RawC h o ab pb act Pl step ha lh ch ra rp) (a : Option Addr) (l c : Nat) : RawC (setC h ⟨o, 1, none⟩ (.slice a l c)) o ab pb act Pl step a l c ra rp :=
  ⟨by have := r.O.set 1 (.slice a l c); simpa using this, r.A.set_ne _ (Ne.symm r.oa), r.P.set_ne _ (Ne.symm r.op), r.oa, r.op, r.ap⟩
theorem RawC.setAct (r : RawC h o ab pb act Pl step ha lh ch ra rp) {i : Nat} (v : Int) (hi : i < act.length) : RawC (setC h ⟨ab, i, none⟩ (.int .i64 v)) o ab pb (act.set i v) Pl step ha lh ch ra rp :=
  ⟨by simpa using r.O.set_ne (a := ⟨ab, i, none⟩) _ r.oa, Blk.set_ints r.A v hi, r.P.set_ne _ (Ne.symm r.ap), r.oa, r.op, r.ap⟩
theorem RawC.setPl (r : RawC h o ab pb act Pl step ha lh ch ra rp) {i : Nat} (v : Int) (hi : i < Pl.length) : RawC (setC h ⟨pb, i, none⟩ (.int .i64 v)) o ab pb act (Pl.set i v) step ha lh ch ra rp :=
  ⟨by simpa using r.O.set_ne (a := ⟨pb, i, none⟩) _ r.op, r.A.set_ne _ r.ap, Blk.set_ints r.P v hi, r.oa, r.op, r.ap⟩
theorem RawC.setOff (r : RawC h o ab pb act Pl step ha lh ch ra rp) {a : Addr} (v : Value) (h1 : o ≠ a.block) (h2 : ab ≠ a.block) (h3 : pb ≠ a.block) : RawC (setC h a v) o ab pb act Pl step ha lh ch ra rp :=
  ⟨r.O.set_ne _ h1, r.A.set_ne _ h2, r.P.set_ne _ h3, r.oa, r.op, r.ap⟩

theorem RawH.setH (r : RawH h o ab hb pb act H Pl step ra rh rp) {i : Nat} (v : Int) (hi : i < H.length) : RawH (setC h ⟨hb, i, none⟩ (.int .i64 v)) o ab hb pb act (H.set i v) Pl step ra rh rp :=
  ⟨by simpa using r.toRawC.setOff (a := ⟨hb, i, none⟩) _ r.oh r.ah r.ph, Blk.set_ints r.Hh v hi, r.oh, r.ah, r.ph⟩
theorem RawH.setPl' (r : RawH h o ab hb pb act H Pl step ra rh rp) {i : Nat} (v : Int) (hi : i < Pl.length) : RawH (setC h ⟨pb, i, none⟩ (.int .i64 v)) o ab hb pb act H (Pl.set i v) step ra rh rp :=
  ⟨r.toRawC.setPl v hi, r.Hh.set_ne _ (Ne.symm r.ph), r.oh, r.ah, r.ph⟩

theorem put_c (r : RawH h o ab hb pb act H Pl step ra rh rp) {i v : Int} (hi : 0 ≤ i ∧ i < H.length) (hv : 0 ≤ v ∧ v < Pl.length) :
    callT Try.prog fn_order_Order_put #[.pointer (pt o), .int .i64 i, .int .i64 v] (.tup .nil)
      (fun _ h' => RawH h' o ab hb pb act (H.set i.toNat v) (Pl.set v.toNat i) step ra rh rp ∧ Ext [hb, pb] h h') h := by
  apply S_order_Order_put
  unfold F_order_Order_put
  have r1 := r.setH (i := i.toNat) v (by omega)
  simp only [nn_some, addr_add, r.toRawC.l1, wr_ints r.Hh hi.1 hi.2, r1.toRawC.l2, wr_ints r1.P hv.1 hv.2]
  exact ⟨r1.setPl' i (by omega), (Ext.set ⟨Nat.le_refl _, fun _ _ _ => rfl⟩ _ _ (by simp)).set _ _ (by simp)⟩

theorem decay_c (r : RawC h o ab pb act Pl step ha lh ch ra rp) (h1 : 1 ≤ step) (h2 : step ≤ 1125899906842624) : callT Try.prog fn_order_Order_Decay #[.pointer (pt o)] (.int .i64)
    (fun x h' => (x = 4 ∧ step + step / 16 + 1 > 1125899906842624 ∧ h' = h) ∨
      (x = 0 ∧ step + step / 16 + 1 ≤ 1125899906842624 ∧ RawC h' o ab pb act Pl (step + step / 16 + 1) ha lh ch ra rp ∧ Ext [o] h h')) h := by
  refine callT_gen fun K hK => ?_
  apply S_order_Order_Decay
  unfold F_order_Order_Decay
  refine call_of (is_c r) ?_
  rintro b h' ⟨rfl, rfl⟩
  have e1 : Int.tdiv step 16 = step / 16 := Int.tdiv_eq_ediv_of_nonneg (by omega)
  have e2 : IntKind.wrap .i64 (step / 16) = step / 16 := wrap_i64 (by omega) (by omega)
  have e3 : IntKind.wrap .i64 (step + step / 16) = step + step / 16 := wrap_i64 (by omega) (by omega)
  have e4 : IntKind.wrap .i64 (step + step / 16 + 1) = step + step / 16 + 1 := wrap_i64 (by omega) (by omega)
  simp only [Bool.not_true, brB_false, nn_some, addr_add, r.l3, e1, e2, e3, e4, nz_ok (show (16 : Int) ≠ 0 by decide)]
  by_cases hg : step + step / 16 + 1 > 1125899906842624
  · simp only [hg, decide_true, brB_true]; exact hK _ _ (.inl ⟨rfl, hg, rfl⟩)
  · simp only [hg, decide_false, brB_false, nn_some, addr_add]
    rw [Nat.zero_add, st_ok r.O (by simp)]
    exact hK _ _ (.inr ⟨rfl, by omega, r.setStep _, (Ext.refl _ _).set _ _ (by simp)⟩)

end
end Go.Proofs.Ord
