/-
  down: the walk.
-/
import Derived.Test.YtkfdfbgceockpaaOrdC
set_option linter.unusedVariables false
set_option linter.unusedSimpArgs false
set_option linter.unusedSectionVars false
namespace Go.Proofs.Ord
open Go Go.Sx Go.Proofs

section
variable (act H Pl : List Int) (n : Nat) (i : Nat)
/-- Where a descent of what stood at i stands. -/
structure Sink (H' Pl' : List Int) (cur : Nat) : Prop where
  cons : Cons H' Pl' n
  same : Same Pl Pl'
  len : H'.length = H.length
  lt : cur < H.length
  at_ : g H' cur = g H i
  hole : Hole act H' cur
  up : UpOk act H' cur
end

theorem Sink.down {act H Pl H' Pl' : List Int} {n i cur c : Nat} (s : Sink act H Pl n i H' Pl' cur) (h0 : 0 < c) (hc : c < H'.length) (hpc : par c = cur) (hb : bef act (g H' c) (g H' cur) = true)
    (hm : ∀ j, 0 < j → j < H'.length → par j = cur → bef act (g H' j) (g H' c) = false) :
    Sink act H Pl n i ((H'.set cur (g H' c)).set c (g H' cur)) ((Pl'.set (g H' c).toNat cur).set (g H' cur).toNat c) c := by
  have d := par_def c
  have hlt := s.lt
  have hl := s.len
  have hi : cur < H'.length := by omega
  obtain ⟨k1, k2⟩ := s.hole.down s.up h0 hc hpc hb hm
  refine ⟨s.cons.swap hi hc (by omega), s.same.trans (s.cons.swap_same hi hc (by omega)), by simp [hl], by omega, ?_, k1, k2⟩
  rw [g_swap hi hc, if_pos rfl]; exact s.at_

/-- Which of two comes first. -/
def first (act H : List Int) (a b : Nat) : Nat := if b < H.length ∧ bef act (g H b) (g H a) = true then b else a

section
variable {h : Heap} {o ab pb hb : Nat} {act H Pl : List Int} {step : Int} {ra rh rp : List Value} {n : Nat}

theorem Cons.rng' (c : Cons H Pl n) (hl : act.length = n + 1) {i : Nat} (hi : i < H.length) : 0 ≤ g H i ∧ g H i < act.length := by
  have := c.rng i hi; omega

theorem first_c (r : RawH h o ab hb pb act H Pl step ra rh rp) {b0 : Nat} (k0 : Blk h b0 24 [.pointer (pt o)]) {a b : Nat} (ha : a < H.length) (hra : 0 ≤ g H a ∧ g H a < act.length) (hrb : b < H.length → 0 ≤ g H b ∧ g H b < act.length) :
    callF Try.prog (.func (.func 50) #[] #[.pointer (pt b0)]) #[.int .i64 a, .int .i64 b] (.int .i64) (fun x h' => x = (first act H a b : Nat) ∧ h' = h) h := by
  refine callF_func (S_order_Order_down_1 (a0 := a) (a1 := b) (c0 := ⟨b0, 0, none⟩) _ ?_)
  have key : ∀ K : Int → HP, K (first act H a b : Nat) h → F_order_Order_down_1 a b ⟨b0, 0, none⟩ K h := by
    intro K hK
    unfold F_order_Order_down_1
    simp only [ld_ptr (i := 0) k0 rfl, nn_some, addr_add, r.toRawC.l1]
    unfold first at hK
    by_cases hlt : b < H.length
    · have e : decide ((b : Int) < (H.length : Int)) = true := by simp; omega
      simp only [e, brB_true]
      simp only [ld_ptr (i := 0) k0 rfl, nn_some, addr_add, r.toRawC.l1, rdn r.Hh (k := b) (show b < H.length by omega), rdn r.Hh (k := a) (show a < H.length by omega)]
      refine call_of (before_c r.toRawC (hrb hlt) hra) ?_
      rintro bb h7 ⟨rfl, rfl⟩
      cases hbf : bef act (g H b) (g H a) with
      | false => rw [if_neg (by simp [hbf])] at hK; exact hK
      | true => rw [if_pos ⟨hlt, hbf⟩] at hK; exact hK
    · have e : decide ((b : Int) < (H.length : Int)) = false := by simp; omega
      simp only [e, brB_false]
      rw [if_neg (fun k => hlt k.1)] at hK; exact hK
  exact key _ ⟨rfl, rfl⟩

/-- What down leaves. -/
def DownPost (h : Heap) (o ab hb pb : Nat) (act H Pl : List Int) (step : Int) (ra rh rp : List Value) (n : Nat) (h' : Heap) : Prop :=
  ∃ H' Pl', RawH h' o ab hb pb act H' Pl' step ra rh rp ∧ Cons H' Pl' n ∧ Same Pl Pl' ∧ H'.length = H.length ∧ Heaped act H' ∧ Ext [hb, pb] h h'

/-- A descent's state: the cells lag behind. -/
structure SinkAt (h : Heap) (o ab hb pb : Nat) (act H Pl : List Int) (step : Int) (ra rh rp : List Value) (n i : Nat) (b0 : Nat) (cur : Nat) (h' : Heap) (Hm Pm : List Int) : Prop where
  r : RawH h' o ab hb pb act Hm Pm step ra rh rp
  s : Sink act H Pl n i (Hm.set cur (g H i)) (Pm.set (g H i).toNat cur) cur
  k0 : Blk h' b0 24 [.pointer (pt o)]
  x : Ext [hb, pb] h h'

theorem down_c {i : Nat} (r : RawH h o ab hb pb act H Pl step ra rh rp) (c : Cons H Pl n) (hl : act.length = n + 1) (hi : i < H.length) (hol : Hole act H i) (up : UpOk act H i) (hbd : H.length ≤ 2000000) :
    callT Try.prog fn_order_Order_down #[.pointer (pt o), .int .i64 i] (.tup .nil) (fun _ h' => DownPost h o ab hb pb act H Pl step ra rh rp n h') h := by
  refine callT_gen fun K hK => ?_
  apply S_order_Order_down
  unfold F_order_Order_down
  simp only [nw_eq]
  have hpl := c.len
  have r1 : RawH (h.push (.cells #[.pointer (pt o)] 24)) o ab hb pb act H Pl step ra rh rp := r.ext ((Ext.refl [] h).push _) (by simp) (by simp) (by simp) (by simp)
  have k0 := Blk.new h 24 #[.pointer (pt o)]
  have x1 := (Ext.refl [hb, pb] h).push (.cells #[.pointer (pt o)] 24)
  generalize h.push (.cells #[.pointer (pt o)] 24) = h1 at *
  simp only [ld_ptr (i := 0) k0 rfl, nn_some, addr_add, r1.toRawC.l1, rdn r1.Hh (k := i) (show i < H.length by omega)]
  have ri := c.rng i hi
  have hsk : Sink act H Pl n i (H.set i (g H i)) (Pl.set (g H i).toNat i) i := by
    have e1 : H.set i (g H i) = H := ext_g (by simp) fun j hj => by
      rw [g_set]; split
      · rename_i h; rw [h.1]
      · rfl
    have e2 : Pl.set (g H i).toNat i = Pl := ext_g (by simp) fun j hj => by
      rw [g_set]; split
      · rename_i h; rw [← h.1, c.fwd i hi]
      · rfl
    rw [e1, e2]
    exact ⟨c, Same.refl _, rfl, hi, rfl, hol, up⟩
  refine jn_mid (M := fun s h' => ∃ (cur : Nat) (Hm Pm : List Int), s = ((cur : Int), ()) ∧ SinkAt h o ab hb pb act H Pl step ra rh rp n i h.size cur h' Hm Pm ∧ DownOk act (Hm.set cur (g H i)) cur) ?_ ?_
  · rintro s h' ⟨cur, Hm, Pm, rfl, ca, dn⟩
    have hlen := ca.s.len
    have hlt' := ca.s.lt
    have hpl' := ca.s.cons.len
    simp only [List.length_set] at hlen hpl'
    simp only [ld_ptr (i := 0) ca.k0 rfl]
    refine call_of (put_c ca.r (i := cur) (v := g H i) (by omega) (by omega)) ?_
    rintro _ h2 ⟨rw2, xw⟩
    exact hK _ _ ⟨Hm.set cur (g H i), Pm.set (g H i).toNat cur, rw2, ca.s.cons, ca.s.same, ca.s.len, ca.s.hole.heaped ca.s.up dn, ca.x.trans xw (fun b hb => .inl hb)⟩
  intro J hJ
  refine lfp_invh (I := fun m s h' => ∃ (cur : Nat) (Hm Pm : List Int), s = ((cur : Int), ()) ∧ SinkAt h o ab hb pb act H Pl step ra rh rp n i h.size cur h' Hm Pm ∧ m = H.length - cur)
    ⟨_, i, H, Pl, rfl, ⟨r1, hsk, k0, x1⟩, rfl⟩ ?_
  rintro m s h' X ⟨cur, Hm, Pm, rfl, ca, rfl⟩ hX
  have hlen := ca.s.len
  have hlt' := ca.s.lt
  have hpl' := ca.s.cons.len
  simp only [List.length_set] at hlen hpl'
  have e1 : IntKind.wrap .i64 (2 * (cur : Int)) = 2 * cur := wrap_i64 (by omega) (by omega)
  have e2 : IntKind.wrap .i64 (2 * (cur : Int) + 1) = (2 * cur + 1 : Nat) := by rw [wrap_i64 (by omega) (by omega)]; omega
  have e3 : IntKind.wrap .i64 (2 * (cur : Int) + 2) = (2 * cur + 2 : Nat) := by rw [wrap_i64 (by omega) (by omega)]; omega
  simp only [ld_ptr (i := 0) ca.k0 rfl, nn_some, addr_add, ca.r.toRawC.l1, e1, e2, e3]
  have ev : g (Hm.set cur (g H i)) cur = g H i := by rw [g_set, if_pos ⟨rfl, by omega⟩]
  by_cases hch : 2 * cur + 1 < Hm.length
  · have e : decide (((2 * cur + 1 : Nat) : Int) < (Hm.length : Int)) = true := by simp; omega
    simp only [e, brB_true]
    have eq : ∀ j, j ≠ cur → g (Hm.set cur (g H i)) j = g Hm j := fun j hj => by rw [g_set, if_neg (by omega)]
    have hr : ∀ j, j < Hm.length → j ≠ cur → 0 ≤ g Hm j ∧ g Hm j < act.length := by
      intro j hj hne
      have := ca.s.cons.rng j (by simpa using hj)
      rw [eq j hne] at this; omega
    refine callF_of (first_c ca.r ca.k0 hch (hr _ hch (by omega)) (fun hlt => hr _ hlt (by omega))) ?_
    rintro x h2 ⟨rfl, rfl⟩
    have hc : ∃ c : Nat, first act Hm (2 * cur + 1) (2 * cur + 2) = c ∧ c < Hm.length ∧ 0 < c ∧ par c = cur ∧ ∀ j, 0 < j → j < Hm.length → par j = cur → bef act (g Hm j) (g Hm c) = false := by
      refine ⟨_, rfl, ?_⟩
      unfold first
      have p1 := par_def (2 * cur + 1)
      have p2 := par_def (2 * cur + 2)
      split
      · rename_i hh
        refine ⟨hh.1, by omega, by omega, fun j j0 j1 j2 => ?_⟩
        have := par_def j
        have : j = 2 * cur + 1 ∨ j = 2 * cur + 2 := by omega
        rcases this with rfl | rfl
        · exact bef_asymm hh.2
        · rw [bef_false]; omega
      · rename_i hh
        refine ⟨hch, by omega, by omega, fun j j0 j1 j2 => ?_⟩
        have := par_def j
        have : j = 2 * cur + 1 ∨ j = 2 * cur + 2 := by omega
        rcases this with rfl | rfl
        · rw [bef_false]; omega
        · cases hbf : bef act (g Hm (2 * cur + 2)) (g Hm (2 * cur + 1)) with
          | false => rfl
          | true => exact absurd ⟨j1, hbf⟩ hh
    obtain ⟨c, ec, hcl, hc0, hpc, hmin⟩ := hc
    rw [ec]
    have dpc := par_def c
    have hcc := hr c hcl (by omega)
    simp only [ld_ptr (i := 0) ca.k0 rfl, nn_some, addr_add, ca.r.toRawC.l1, rdn ca.r.Hh (k := c) (show c < Hm.length by omega)]
    refine call_of (before_c ca.r.toRawC (a := g Hm c) (b := g H i) hcc (by omega)) ?_
    rintro bb h7 ⟨rfl, rfl⟩
    cases hbf : bef act (g Hm c) (g H i) with
    | false =>
      simp only [Bool.not_false, brB_true]
      refine hJ _ _ ⟨cur, Hm, Pm, rfl, ca, ?_⟩
      intro j j0 j1 j2
      have := par_def j
      simp only [List.length_set] at j1
      rw [ev, eq j (by omega)]
      exact bef_trans_ff (hmin j j0 j1 j2) hbf
    | true =>
      simp only [Bool.not_true, brB_false]
      simp only [ld_ptr (i := 0) ca.k0 rfl, nn_some, addr_add, ca.r.toRawC.l1, rdn ca.r.Hh (k := c) (show c < Hm.length by omega)]
      refine call_of (put_c ca.r (i := cur) (v := g Hm c) (by omega) (by omega)) ?_
      rintro _ h8 ⟨r8, x8⟩
      simp only [Int.toNat_natCast] at r8
      have hlt2 := r.Hh.lt
      have plt2 := r.P.lt
      have ru := ca.s.cons.rng c (by simpa using hcl)
      rw [eq c (by omega)] at ru
      have cu := ca.s.down hc0 (by simpa using hcl) hpc (by rw [ev, eq c (by omega)]; exact hbf) (by
        intro j j0 j1 j2
        have := par_def j
        rw [eq j (by omega), eq c (by omega)]
        exact hmin j j0 (by simpa using j1) j2)
      rw [← set_lag hcl (by omega) (by omega), eq c (by omega), ev] at cu
      have nuv : (g Hm c).toNat ≠ (g H i).toNat := by
        intro e
        have := ca.s.cons.inj (i := c) (j := cur) (by simpa using hcl) (by simp; omega) (by rw [eq c (by omega), ev]; omega)
        omega
      rw [← set_lagP nuv] at cu
      refine hX _ _ _ ⟨c, _, _, rfl, ⟨r8, cu, ca.k0.ext x8 (by simp; omega), ca.x.trans x8 (fun b hb => .inl hb)⟩, rfl⟩ (by omega)
  · have e : decide (((2 * cur + 1 : Nat) : Int) < (Hm.length : Int)) = false := by simp; omega
    simp only [e, brB_false]
    refine hJ _ _ ⟨cur, Hm, Pm, rfl, ca, ?_⟩
    intro j j0 j1 j2
    have := par_def j
    simp at j1; omega

end
end Go.Proofs.Ord
