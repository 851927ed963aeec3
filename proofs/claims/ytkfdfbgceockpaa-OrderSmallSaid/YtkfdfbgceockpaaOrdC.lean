/-
  up, down: the walks.
-/
import Derived.Test.YtkfdfbgceockpaaOrdP
set_option linter.unusedVariables false
set_option linter.unusedSimpArgs false
set_option linter.unusedSectionVars false
namespace Go.Proofs.Ord
open Go Go.Sx Go.Proofs

/-- What up leaves. -/
def UpPost (h : Heap) (o ab hb pb : Nat) (act H Pl : List Int) (step : Int) (ra rh rp : List Value) (n i : Nat) (h' : Heap) : Prop :=
  ∃ H' Pl' cur, RawH h' o ab hb pb act H' Pl' step ra rh rp ∧ Climb act H Pl n i H' Pl' cur ∧ UpOk act H' cur ∧ Ext [hb, pb] h h'

/-- A climb's state: the cells lag behind. -/
structure ClimbAt (h : Heap) (o ab hb pb : Nat) (act H Pl : List Int) (step : Int) (ra rh rp : List Value) (n i : Nat) (b0 b1 b8 : Nat) (cur : Nat) (h' : Heap) (Hm Pm : List Int) : Prop where
  r : RawH h' o ab hb pb act Hm Pm step ra rh rp
  c : Climb act H Pl n i (Hm.set cur (g H i)) (Pm.set (g H i).toNat cur) cur
  k0 : Blk h' b0 24 [.pointer (pt o)]
  k1 : Blk h' b1 3 [.int .i64 cur]
  k8 : Blk h' b8 3 [.int .i64 (g H i)]
  x : Ext [hb, pb] h h'

theorem up_c {h : Heap} {o ab hb pb : Nat} {act H Pl : List Int} {step : Int} {ra rh rp : List Value} {n i : Nat}
    (r : RawH h o ab hb pb act H Pl step ra rh rp) (c : Cons H Pl n) (hl : act.length = n + 1) (hi : i < H.length) (hol : Hole act H i) (hbd : H.length ≤ 2000000) :
    callT Try.prog fn_order_Order_up #[.pointer (pt o), .int .i64 i] (.tup .nil) (fun _ h' => UpPost h o ab hb pb act H Pl step ra rh rp n i h') h := by
  refine callT_gen fun K hK => ?_
  apply S_order_Order_up
  unfold F_order_Order_up
  simp only [nw_eq]
  have hpl := c.len
  -- the boxes
  have r1 : RawH (h.push (.cells #[.pointer (pt o)] 24)) o ab hb pb act H Pl step ra rh rp := r.ext ((Ext.refl [] h).push _) (by simp) (by simp) (by simp) (by simp)
  have k0 := Blk.new h 24 #[.pointer (pt o)]
  have x1 := (Ext.refl [hb, pb] h).push (.cells #[.pointer (pt o)] 24)
  have s1 : (h.push (.cells #[.pointer (pt o)] 24)).size = h.size + 1 := by simp
  generalize h.push (.cells #[.pointer (pt o)] 24) = h1 at *
  have r2 := r1.ext ((Ext.refl [] h1).push (.cells #[.int .i64 i] 3)) (by simp) (by simp) (by simp) (by simp)
  have k1 := Blk.new h1 3 #[.int .i64 i]
  have k0 := k0.push (.cells #[.int .i64 i] 3)
  have x2 := x1.push (.cells #[.int .i64 i] 3)
  have s2 : (h1.push (.cells #[.int .i64 i] 3)).size = h.size + 2 := by simp [s1]
  rw [s1] at k1 ⊢
  generalize h1.push (.cells #[.int .i64 i] 3) = h2 at *
  simp only [ld_ptr (i := 0) k0 rfl, ld_int (i := 0) k1 rfl, nn_some, addr_add, r2.toRawC.l1, rdn r2.Hh (k := i) (show i < H.length by omega), nw_eq]
  have r3 := r2.ext ((Ext.refl [] h2).push (.cells #[.int .i64 0] 3)) (by simp) (by simp) (by simp) (by simp)
  have k8 := Blk.new h2 3 #[.int .i64 0]
  have k0 := k0.push (.cells #[.int .i64 0] 3)
  have k1 := k1.push (.cells #[.int .i64 0] 3)
  have x3 := x2.push (.cells #[.int .i64 0] 3)
  have s3 : (h2.push (.cells #[.int .i64 0] 3)).size = h.size + 3 := by simp [s2]
  rw [s2] at k8 ⊢
  generalize h2.push (.cells #[.int .i64 0] 3) = h3 at *
  rw [st_ok k8 (by simp)]
  have olt := r.O.lt
  have alt := r.A.lt
  have plt := r.P.lt
  have hlt := r.Hh.lt
  have xx : Ext [h.size + 2] h3 (setC h3 ⟨h.size + 2, 0, none⟩ (.int .i64 (g H i))) := (Ext.refl _ _).set _ _ (by simp)
  have r4 := r3.ext xx (by simp; omega) (by simp; omega) (by simp; omega) (by simp; omega)
  have k0 := k0.ext xx (by simp)
  have k1 := k1.ext xx (by simp)
  have k8 := k8.set 0 (.int .i64 (g H i))
  have x4 := x3.trans xx (by intro b hb; simp at hb; omega)
  have s4 : (setC h3 ⟨h.size + 2, 0, none⟩ (.int .i64 (g H i))).size = h.size + 3 := by simp [s3]
  generalize setC h3 ⟨h.size + 2, 0, none⟩ (.int .i64 (g H i)) = h4 at *
  rw [ld_int (i := 0) k1 rfl]
  refine call_of (above_c i h4) ?_
  rintro fv h5 ⟨rfl, rfl⟩
  have r5 := r4.ext ((Ext.refl [] h4).push (.cells #[.int .i64 i] 3)) (by simp) (by simp) (by simp) (by simp)
  have kb := Blk.new h4 3 #[.int .i64 i]
  have k0 := k0.push (.cells #[.int .i64 i] 3)
  have k1 := k1.push (.cells #[.int .i64 i] 3)
  have k8 := k8.push (.cells #[.int .i64 i] 3)
  have x5 := x4.push (.cells #[.int .i64 i] 3)
  have s5 : (h4.push (.cells #[.int .i64 i] 3)).size = h.size + 4 := by simp [s4]
  rw [s4] at kb ⊢
  generalize h4.push (.cells #[.int .i64 i] 3) = h5 at *
  have ri := c.rng i hi
  have hcl : Climb act H Pl n i (H.set i (g H i)) (Pl.set (g H i).toNat i) i := by
    have e1 : H.set i (g H i) = H := ext_g (by simp) fun j hj => by
      rw [g_set]; split
      · rename_i h; rw [h.1]
      · rfl
    have e2 : Pl.set (g H i).toNat i = Pl := ext_g (by simp) fun j hj => by
      rw [g_set]; split
      · rename_i h; rw [← h.1, c.fwd i hi]
      · rfl
    rw [e1, e2]
    exact ⟨c, Same.refl _, rfl, hi, rfl, hol, id⟩
  have at0 : ClimbAt h o ab hb pb act H Pl step ra rh rp n i h.size (h.size + 1) (h.size + 2) i h5 H Pl := ⟨r5, hcl, k0, k1, k8, x5⟩
  -- the way's end
  refine jn_mid (M := fun _ h' => ∃ cur Hm Pm, ClimbAt h o ab hb pb act H Pl step ra rh rp n i h.size (h.size + 1) (h.size + 2) cur h' Hm Pm ∧ UpOk act (Hm.set cur (g H i)) cur) ?_ ?_
  · rintro _ h' ⟨cur, Hm, Pm, ca, uo⟩
    have hlen := ca.c.len
    have hlt' := ca.c.lt
    simp only [List.length_set] at hlen
    have hpl' := ca.c.cons.len
    simp only [List.length_set] at hpl'
    simp only [ld_ptr (i := 0) ca.k0 rfl, ld_int (i := 0) ca.k1 rfl, ld_int (i := 0) ca.k8 rfl]
    refine call_of (put_c ca.r (i := cur) (v := g H i) (by omega) (by omega)) ?_
    rintro _ h2 ⟨rw2, xw⟩ h3 hm
    refine hK _ _ ⟨Hm.set cur (g H i), Pm.set (g H i).toNat cur, cur, rw2.marked hm, ca.c, uo, ?_⟩
    exact Ext.marked (ca.x.trans xw (by intro b hb; exact .inl hb)) hm
  intro J hJ
  have stab : ∀ (cur : Nat) (Hm Pm : List Int) (h1 h2 : Heap) (T : List Nat), ClimbAt h o ab hb pb act H Pl step ra rh rp n i h.size (h.size + 1) (h.size + 2) cur h1 Hm Pm → Ext T h1 h2 →
      (∀ t ∈ T, t ∉ [o, ab, hb, pb, h.size, h.size + 1, h.size + 2] ∧ (h5.size ≤ t ∨ t ∈ [h.size + 3])) → ClimbAt h o ab hb pb act H Pl step ra rh rp n i h.size (h.size + 1) (h.size + 2) cur h2 Hm Pm := by
    intro cur Hm Pm h1 h2 T ca he hT
    have nin : ∀ b, b ∈ [o, ab, hb, pb, h.size, h.size + 1, h.size + 2] → b ∉ T := fun b hb ht => (hT b ht).1 hb
    refine ⟨ca.r.ext he (nin _ (by simp)) (nin _ (by simp)) (nin _ (by simp)) (nin _ (by simp)), ca.c, ca.k0.ext he (nin _ (by simp)), ca.k1.ext he (nin _ (by simp)), ca.k8.ext he (nin _ (by simp)), ca.x.trans he ?_⟩
    intro b hb
    rcases (hT b hb).2 with h | h
    · exact .inr (by omega)
    · simp at h; exact .inr (by omega)
  refine ⟨_, _, [], [h.size + 3], by simp [s5], fun h1 hn => above_iter (b := h.size + 3) (start := i) (by omega) (by omega) (kb.ext hn.1 (by simp)),
    fun pre B h' => B = [o, ab, hb, pb, h.size, h.size + 1, h.size + 2] ∧ ∃ cur Hm Pm, curOf i pre = (cur : Nat) ∧ ClimbAt h o ab hb pb act H Pl step ra rh rp n i h.size (h.size + 1) (h.size + 2) cur h' Hm Pm,
    fun j B h' => B = [o, ab, hb, pb, h.size, h.size + 1, h.size + 2] ∧ j = .exit 0 ∧ ∃ cur Hm Pm, ClimbAt h o ab hb pb act H Pl step ra rh rp n i h.size (h.size + 1) (h.size + 2) cur h' Hm Pm ∧ UpOk act (Hm.set cur (g H i)) cur,
    [o, ab, hb, pb, h.size, h.size + 1, h.size + 2], ?_, ?_, ?_, ?_, ?_, ?_, ?_, ?_⟩
  · have hlt' := r.Hh.lt
    have := r.oh
    intro b hb; simp at hb
    rw [s5]; simp; omega
  · rintro pre B h1 h2 T ⟨rfl, cur, Hm, Pm, e, ca⟩ he hT
    exact ⟨rfl, cur, Hm, Pm, e, stab cur Hm Pm h1 h2 T ca he hT⟩
  · rintro j B h1 h2 T ⟨rfl, rfl, cur, Hm, Pm, ca, uo⟩ he hT
    exact ⟨rfl, rfl, cur, Hm, Pm, stab cur Hm Pm h1 h2 T ca he hT, uo⟩
  · exact ⟨rfl, i, H, Pl, rfl, at0⟩
  · rintro pre x B h' N ⟨⟨hc0, rfl⟩, rfl⟩ hN ⟨rfl, cur, Hm, Pm, ecur, ca⟩ h6 hoff
    rw [ecur] at hc0 ⊢
    have epar : ((cur : Int) - 1) / 2 = (par cur : Nat) := by rw [par_def]; omega
    have hlen := ca.c.len
    have hlt' := ca.c.lt
    have hpl' := ca.c.cons.len
    simp only [List.length_set] at hlen hpl'
    have dpar := par_def cur
    have hpm : par cur < Hm.length := by omega
    have k0' := ca.k0.off hoff
    have k1' := ca.k1.off hoff
    have k8' := ca.k8.off hoff
    have r6 := ca.r.off hoff
    have eu : g (Hm.set cur (g H i)) (par cur) = g Hm (par cur) := by rw [g_set, if_neg (by omega)]
    have ev : g (Hm.set cur (g H i)) cur = g H i := by rw [g_set, if_pos ⟨rfl, by omega⟩]
    have ru := ca.c.cons.rng (par cur) (by simp; omega)
    rw [eu] at ru
    simp only [epar]
    simp only [ld_ptr (i := 0) k0' rfl, ld_int (i := 0) k8' rfl, nn_some, addr_add, r6.toRawC.l1, rdn r6.Hh (k := par cur) (show par cur < Hm.length by omega)]
    refine call_of (before_c r6.toRawC (a := g H i) (b := g Hm (par cur)) (by omega) (by omega)) ?_
    rintro bb h7 ⟨rfl, rfl⟩
    cases hbf : bef act (g H i) (g Hm (par cur)) with
    | false =>
      simp only [Bool.not_false, brB_true]
      refine ⟨_, ⟨fun b hb => .inl hb, fun b hb => .inl hb⟩, round_done hoff (Ext.refl [] _) (by simp), rfl, trivial, cur, Hm, Pm, ⟨r6, ca.c, k0', k1', k8', ca.x.off hoff (by omega)⟩, fun _ => ?_⟩
      rw [ev, eu]; exact hbf
    | true =>
      simp only [Bool.not_true, brB_false]
      simp only [ld_ptr (i := 0) k0' rfl, ld_int (i := 0) k1' rfl, nn_some, addr_add, r6.toRawC.l1, rdn r6.Hh (k := par cur) (show par cur < Hm.length by omega)]
      refine call_of (put_c r6 (i := cur) (v := g Hm (par cur)) (by omega) (by omega)) ?_
      rintro _ h8 ⟨r8, x8⟩
      have nh : h.size ≠ hb ∧ h.size ≠ pb ∧ h.size + 1 ≠ hb ∧ h.size + 1 ≠ pb ∧ h.size + 2 ≠ hb ∧ h.size + 2 ≠ pb := by
        have := r.Hh.lt; omega
      have k0'' := k0'.ext x8 (by simp; omega)
      have k1'' := k1'.ext x8 (by simp; omega)
      have k8'' := k8'.ext x8 (by simp; omega)
      simp only [Int.toNat_natCast] at r8
      rw [st_ok k1'' (by simp)]
      have x9 : Ext [h.size + 1] h8 (setC h8 ⟨h.size + 1, 0, none⟩ (.int .i64 (par cur : Nat))) := (Ext.refl _ _).set _ _ (by simp)
      have hlt2 := r.Hh.lt
      refine ⟨_, ⟨fun b hb => .inl hb, fun b hb => .inl hb⟩, round_done (S := [hb, pb, h.size + 1]) hoff ?_ ?_, rfl, par cur, Hm.set cur (g Hm (par cur)), Pm.set (g Hm (par cur)).toNat cur, ?_, ?_⟩
      · exact (x8.mono (by intro b hb _; simp at hb ⊢; omega)).trans x9 (by intro b hb; simp at hb ⊢; omega)
      · intro s hs; simp at hs ⊢; omega
      · rw [curOf_snoc]
      · have cu := ca.c.up (by omega) (by rw [ev, eu]; exact hbf)
        rw [← set_lag hpm (by omega) (by omega), eu, ev] at cu
        have nuv : (g Hm (par cur)).toNat ≠ (g H i).toNat := by
          have rv := c.rng i hi
          intro e
          have := ca.c.cons.inj (i := par cur) (j := cur) (by simp; omega) (by simp; omega) (by rw [eu, ev]; omega)
          omega
        rw [← set_lagP nuv] at cu
        refine ⟨r8.ext x9 (by simp; omega) (by simp; omega) (by simp; omega) (by simp; omega), cu, k0''.ext x9 (by simp), ?_, k8''.ext x9 (by simp), ?_⟩
        · simpa using k1''.set 0 (.int .i64 (par cur : Nat))
        · exact ((ca.x.off hoff (by omega)).trans x8 (fun b hb => .inl hb)).trans x9 (by intro b hb; simp at hb; exact .inr (by omega))
  · rintro pre B h' hf ⟨rfl, cur, Hm, Pm, ecur, ca⟩
    refine hJ _ _ ⟨cur, Hm, Pm, ca, fun h0 => ?_⟩
    rw [ecur] at hf; omega
  · rintro B h' ⟨_, e, _⟩; cases e
  · refine ⟨?_, trivial⟩
    rintro B h' ⟨_, _, hc⟩
    exact hJ _ _ hc

end Go.Proofs.Ord

/-
  down: the walk.
-/
set_option linter.unusedVariables false
set_option linter.unusedSimpArgs false
set_option linter.unusedSectionVars false
namespace Go.Proofs.Ord
open Go Go.Sx Go.Proofs

section
variable (act H Pl : List Int) (n : Nat) (i : Nat)
/-- Where a descent of what stood at i stands. -/
structure Sink (H' Pl' : List Int) (cur : Nat) : Prop where
  cons : Cons H' Pl' n
  same : Same Pl Pl'
  len : H'.length = H.length
  lt : cur < H.length
  at_ : g H' cur = g H i
  hole : Hole act H' cur
  up : UpOk act H' cur
end

theorem Sink.down {act H Pl H' Pl' : List Int} {n i cur c : Nat} (s : Sink act H Pl n i H' Pl' cur) (h0 : 0 < c) (hc : c < H'.length) (hpc : par c = cur) (hb : bef act (g H' c) (g H' cur) = true)
    (hm : ∀ j, 0 < j → j < H'.length → par j = cur → bef act (g H' j) (g H' c) = false) :
    Sink act H Pl n i ((H'.set cur (g H' c)).set c (g H' cur)) ((Pl'.set (g H' c).toNat cur).set (g H' cur).toNat c) c := by
  have d := par_def c
  have hlt := s.lt
  have hl := s.len
  have hi : cur < H'.length := by omega
  obtain ⟨k1, k2⟩ := s.hole.down s.up h0 hc hpc hb hm
  refine ⟨s.cons.swap hi hc (by omega), s.same.trans (s.cons.swap_same hi hc (by omega)), by simp [hl], by omega, ?_, k1, k2⟩
  rw [g_swap hi hc, if_pos rfl]; exact s.at_

/-- Which of two comes first. -/
def first (act H : List Int) (a b : Nat) : Nat := if b < H.length ∧ bef act (g H b) (g H a) = true then b else a

section
variable {h : Heap} {o ab pb hb : Nat} {act H Pl : List Int} {step : Int} {ra rh rp : List Value} {n : Nat}

theorem Cons.rng' (c : Cons H Pl n) (hl : act.length = n + 1) {i : Nat} (hi : i < H.length) : 0 ≤ g H i ∧ g H i < act.length := by
  have := c.rng i hi; omega

theorem first_c (r : RawH h o ab hb pb act H Pl step ra rh rp) {b0 : Nat} (k0 : Blk h b0 24 [.pointer (pt o)]) {a b : Nat} (ha : a < H.length) (hra : 0 ≤ g H a ∧ g H a < act.length) (hrb : b < H.length → 0 ≤ g H b ∧ g H b < act.length) :
    callF Try.prog (.func (.func 50) #[] #[.pointer (pt b0)]) #[.int .i64 a, .int .i64 b] (.int .i64) (fun x h' => x = (first act H a b : Nat) ∧ h' = h) h := by
  refine callF_func (S_order_Order_down_1 (a0 := a) (a1 := b) (c0 := ⟨b0, 0, none⟩) _ ?_)
  have key : ∀ K : Int → HP, K (first act H a b : Nat) h → F_order_Order_down_1 a b ⟨b0, 0, none⟩ K h := by
    intro K hK
    unfold F_order_Order_down_1
    simp only [ld_ptr (i := 0) k0 rfl, nn_some, addr_add, r.toRawC.l1]
    unfold first at hK
    by_cases hlt : b < H.length
    · have e : decide ((b : Int) < (H.length : Int)) = true := by simp; omega
      simp only [e, brB_true]
      simp only [ld_ptr (i := 0) k0 rfl, nn_some, addr_add, r.toRawC.l1, rdn r.Hh (k := b) (show b < H.length by omega), rdn r.Hh (k := a) (show a < H.length by omega)]
      refine call_of (before_c r.toRawC (hrb hlt) hra) ?_
      rintro bb h7 ⟨rfl, rfl⟩
      cases hbf : bef act (g H b) (g H a) with
      | false => rw [if_neg (by simp [hbf])] at hK; exact hK
      | true => rw [if_pos ⟨hlt, hbf⟩] at hK; exact hK
    · have e : decide ((b : Int) < (H.length : Int)) = false := by simp; omega
      simp only [e, brB_false]
      rw [if_neg (fun k => hlt k.1)] at hK; exact hK
  exact key _ ⟨rfl, rfl⟩

/-- What down leaves. -/
def DownPost (h : Heap) (o ab hb pb : Nat) (act H Pl : List Int) (step : Int) (ra rh rp : List Value) (n : Nat) (h' : Heap) : Prop :=
  ∃ H' Pl', RawH h' o ab hb pb act H' Pl' step ra rh rp ∧ Cons H' Pl' n ∧ Same Pl Pl' ∧ H'.length = H.length ∧ Heaped act H' ∧ Ext [hb, pb] h h'

/-- A descent's state: the cells lag behind. -/
structure SinkAt (h : Heap) (o ab hb pb : Nat) (act H Pl : List Int) (step : Int) (ra rh rp : List Value) (n i : Nat) (b0 : Nat) (cur : Nat) (h' : Heap) (Hm Pm : List Int) : Prop where
  r : RawH h' o ab hb pb act Hm Pm step ra rh rp
  s : Sink act H Pl n i (Hm.set cur (g H i)) (Pm.set (g H i).toNat cur) cur
  k0 : Blk h' b0 24 [.pointer (pt o)]
  x : Ext [hb, pb] h h'

theorem down_c {i : Nat} (r : RawH h o ab hb pb act H Pl step ra rh rp) (c : Cons H Pl n) (hl : act.length = n + 1) (hi : i < H.length) (hol : Hole act H i) (up : UpOk act H i) (hbd : H.length ≤ 2000000) :
    callT Try.prog fn_order_Order_down #[.pointer (pt o), .int .i64 i] (.tup .nil) (fun _ h' => DownPost h o ab hb pb act H Pl step ra rh rp n h') h := by
  refine callT_gen fun K hK => ?_
  apply S_order_Order_down
  unfold F_order_Order_down
  simp only [nw_eq]
  have hpl := c.len
  have r1 : RawH (h.push (.cells #[.pointer (pt o)] 24)) o ab hb pb act H Pl step ra rh rp := r.ext ((Ext.refl [] h).push _) (by simp) (by simp) (by simp) (by simp)
  have k0 := Blk.new h 24 #[.pointer (pt o)]
  have x1 := (Ext.refl [hb, pb] h).push (.cells #[.pointer (pt o)] 24)
  generalize h.push (.cells #[.pointer (pt o)] 24) = h1 at *
  simp only [ld_ptr (i := 0) k0 rfl, nn_some, addr_add, r1.toRawC.l1, rdn r1.Hh (k := i) (show i < H.length by omega)]
  have ri := c.rng i hi
  have hsk : Sink act H Pl n i (H.set i (g H i)) (Pl.set (g H i).toNat i) i := by
    have e1 : H.set i (g H i) = H := ext_g (by simp) fun j hj => by
      rw [g_set]; split
      · rename_i h; rw [h.1]
      · rfl
    have e2 : Pl.set (g H i).toNat i = Pl := ext_g (by simp) fun j hj => by
      rw [g_set]; split
      · rename_i h; rw [← h.1, c.fwd i hi]
      · rfl
    rw [e1, e2]
    exact ⟨c, Same.refl _, rfl, hi, rfl, hol, up⟩
  refine jn_mid (M := fun s h' => ∃ (cur : Nat) (Hm Pm : List Int), s = ((cur : Int), ()) ∧ SinkAt h o ab hb pb act H Pl step ra rh rp n i h.size cur h' Hm Pm ∧ DownOk act (Hm.set cur (g H i)) cur) ?_ ?_
  · rintro s h' ⟨cur, Hm, Pm, rfl, ca, dn⟩
    have hlen := ca.s.len
    have hlt' := ca.s.lt
    have hpl' := ca.s.cons.len
    simp only [List.length_set] at hlen hpl'
    simp only [ld_ptr (i := 0) ca.k0 rfl]
    refine call_of (put_c ca.r (i := cur) (v := g H i) (by omega) (by omega)) ?_
    rintro _ h2 ⟨rw2, xw⟩
    exact hK _ _ ⟨Hm.set cur (g H i), Pm.set (g H i).toNat cur, rw2, ca.s.cons, ca.s.same, ca.s.len, ca.s.hole.heaped ca.s.up dn, ca.x.trans xw (fun b hb => .inl hb)⟩
  intro J hJ
  refine lfp_invh (I := fun m s h' => ∃ (cur : Nat) (Hm Pm : List Int), s = ((cur : Int), ()) ∧ SinkAt h o ab hb pb act H Pl step ra rh rp n i h.size cur h' Hm Pm ∧ m = H.length - cur)
    ⟨_, i, H, Pl, rfl, ⟨r1, hsk, k0, x1⟩, rfl⟩ ?_
  rintro m s h' X ⟨cur, Hm, Pm, rfl, ca, rfl⟩ hX
  have hlen := ca.s.len
  have hlt' := ca.s.lt
  have hpl' := ca.s.cons.len
  simp only [List.length_set] at hlen hpl'
  have e1 : IntKind.wrap .i64 (2 * (cur : Int)) = 2 * cur := wrap_i64 (by omega) (by omega)
  have e2 : IntKind.wrap .i64 (2 * (cur : Int) + 1) = (2 * cur + 1 : Nat) := by rw [wrap_i64 (by omega) (by omega)]; omega
  have e3 : IntKind.wrap .i64 (2 * (cur : Int) + 2) = (2 * cur + 2 : Nat) := by rw [wrap_i64 (by omega) (by omega)]; omega
  simp only [ld_ptr (i := 0) ca.k0 rfl, nn_some, addr_add, ca.r.toRawC.l1, e1, e2, e3]
  have ev : g (Hm.set cur (g H i)) cur = g H i := by rw [g_set, if_pos ⟨rfl, by omega⟩]
  by_cases hch : 2 * cur + 1 < Hm.length
  · have e : decide (((2 * cur + 1 : Nat) : Int) < (Hm.length : Int)) = true := by simp; omega
    simp only [e, brB_true]
    have eq : ∀ j, j ≠ cur → g (Hm.set cur (g H i)) j = g Hm j := fun j hj => by rw [g_set, if_neg (by omega)]
    have hr : ∀ j, j < Hm.length → j ≠ cur → 0 ≤ g Hm j ∧ g Hm j < act.length := by
      intro j hj hne
      have := ca.s.cons.rng j (by simpa using hj)
      rw [eq j hne] at this; omega
    refine callF_of (first_c ca.r ca.k0 hch (hr _ hch (by omega)) (fun hlt => hr _ hlt (by omega))) ?_
    rintro x h2 ⟨rfl, rfl⟩
    have hc : ∃ c : Nat, first act Hm (2 * cur + 1) (2 * cur + 2) = c ∧ c < Hm.length ∧ 0 < c ∧ par c = cur ∧ ∀ j, 0 < j → j < Hm.length → par j = cur → bef act (g Hm j) (g Hm c) = false := by
      refine ⟨_, rfl, ?_⟩
      unfold first
      have p1 := par_def (2 * cur + 1)
      have p2 := par_def (2 * cur + 2)
      split
      · rename_i hh
        refine ⟨hh.1, by omega, by omega, fun j j0 j1 j2 => ?_⟩
        have := par_def j
        have : j = 2 * cur + 1 ∨ j = 2 * cur + 2 := by omega
        rcases this with rfl | rfl
        · exact bef_asymm hh.2
        · rw [bef_false]; omega
      · rename_i hh
        refine ⟨hch, by omega, by omega, fun j j0 j1 j2 => ?_⟩
        have := par_def j
        have : j = 2 * cur + 1 ∨ j = 2 * cur + 2 := by omega
        rcases this with rfl | rfl
        · rw [bef_false]; omega
        · cases hbf : bef act (g Hm (2 * cur + 2)) (g Hm (2 * cur + 1)) with
          | false => rfl
          | true => exact absurd ⟨j1, hbf⟩ hh
    obtain ⟨c, ec, hcl, hc0, hpc, hmin⟩ := hc
    rw [ec]
    have dpc := par_def c
    have hcc := hr c hcl (by omega)
    simp only [ld_ptr (i := 0) ca.k0 rfl, nn_some, addr_add, ca.r.toRawC.l1, rdn ca.r.Hh (k := c) (show c < Hm.length by omega)]
    refine call_of (before_c ca.r.toRawC (a := g Hm c) (b := g H i) hcc (by omega)) ?_
    rintro bb h7 ⟨rfl, rfl⟩
    cases hbf : bef act (g Hm c) (g H i) with
    | false =>
      simp only [Bool.not_false, brB_true]
      refine hJ _ _ ⟨cur, Hm, Pm, rfl, ca, ?_⟩
      intro j j0 j1 j2
      have := par_def j
      simp only [List.length_set] at j1
      rw [ev, eq j (by omega)]
      exact bef_trans_ff (hmin j j0 j1 j2) hbf
    | true =>
      simp only [Bool.not_true, brB_false]
      simp only [ld_ptr (i := 0) ca.k0 rfl, nn_some, addr_add, ca.r.toRawC.l1, rdn ca.r.Hh (k := c) (show c < Hm.length by omega)]
      refine call_of (put_c ca.r (i := cur) (v := g Hm c) (by omega) (by omega)) ?_
      rintro _ h8 ⟨r8, x8⟩
      simp only [Int.toNat_natCast] at r8
      have hlt2 := r.Hh.lt
      have plt2 := r.P.lt
      have ru := ca.s.cons.rng c (by simpa using hcl)
      rw [eq c (by omega)] at ru
      have cu := ca.s.down hc0 (by simpa using hcl) hpc (by rw [ev, eq c (by omega)]; exact hbf) (by
        intro j j0 j1 j2
        have := par_def j
        rw [eq j (by omega), eq c (by omega)]
        exact hmin j j0 (by simpa using j1) j2)
      rw [← set_lag hcl (by omega) (by omega), eq c (by omega), ev] at cu
      have nuv : (g Hm c).toNat ≠ (g H i).toNat := by
        intro e
        have := ca.s.cons.inj (i := c) (j := cur) (by simpa using hcl) (by simp; omega) (by rw [eq c (by omega), ev]; omega)
        omega
      rw [← set_lagP nuv] at cu
      refine hX _ _ _ ⟨c, _, _, rfl, ⟨r8, cu, ca.k0.ext x8 (by simp; omega), ca.x.trans x8 (fun b hb => .inl hb)⟩, rfl⟩ (by omega)
  · have e : decide (((2 * cur + 1 : Nat) : Int) < (Hm.length : Int)) = false := by simp; omega
    simp only [e, brB_false]
    refine hJ _ _ ⟨cur, Hm, Pm, rfl, ca, ?_⟩
    intro j j0 j1 j2
    have := par_def j
    simp at j1; omega

end
end Go.Proofs.Ord
