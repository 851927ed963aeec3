/-
  The heap of an order as lists of numbers: what keeps it one. No program here.
-/
import Derived.Test.YtkfdfbgceockpaaOrdA
set_option linter.unusedVariables false
set_option linter.unusedSimpArgs false
set_option linter.unusedSectionVars false
namespace Go.Proofs.Ord
open Go Go.Sx Go.Proofs

theorem ext_g {xs ys : List Int} (hl : xs.length = ys.length) (he : ∀ i, i < xs.length → g xs i = g ys i) : xs = ys := by
  apply List.ext_getElem hl
  intro i h1 h2
  have := he i h1
  simpa [g, List.getD_eq_getElem?_getD, h1, h2] using this

/-- Places and heap tell the same. -/
structure Cons (H Pl : List Int) (n : Nat) : Prop where
  len : Pl.length = n + 1
  rng : ∀ i, i < H.length → 1 ≤ g H i ∧ g H i ≤ n
  fwd : ∀ i, i < H.length → g Pl (g H i).toNat = i
  bwd : ∀ v : Nat, 1 ≤ v → v ≤ n → 0 ≤ g Pl v → (g Pl v).toNat < H.length ∧ g H (g Pl v).toNat = v

theorem Cons.inj {H Pl : List Int} {n : Nat} (c : Cons H Pl n) {i j : Nat} (hi : i < H.length) (hj : j < H.length) (he : g H i = g H j) : i = j := by
  have h1 := c.fwd i hi
  have h2 := c.fwd j hj
  rw [he] at h1; omega

theorem Cons.swap {H Pl : List Int} {n : Nat} (c : Cons H Pl n) {i p : Nat} (hi : i < H.length) (hp : p < H.length) (hne : i ≠ p) :
    Cons ((H.set i (g H p)).set p (g H i)) ((Pl.set (g H p).toNat i).set (g H i).toNat p) n := by
  have ri := c.rng i hi
  have rp := c.rng p hp
  have hl := c.len
  have nei : g H i ≠ g H p := fun e => hne (c.inj hi hp e)
  have gh : ∀ j, g ((H.set i (g H p)).set p (g H i)) j = if p = j then g H i else if i = j then g H p else g H j := by
    intro j
    simp only [g_set, List.length_set]
    by_cases h1 : p = j
    · subst h1; simp [hp]
    · by_cases h2 : i = j
      · subst h2; simp [h1, hi]
      · simp [h1, h2]
  have gp : ∀ v : Nat, g ((Pl.set (g H p).toNat i).set (g H i).toNat p) v = if (g H i).toNat = v then (p : Int) else if (g H p).toNat = v then (i : Int) else g Pl v := by
    intro v
    simp only [g_set, List.length_set]
    by_cases h1 : (g H i).toNat = v
    · have : v < Pl.length := by omega
      simp [h1, this]
    · by_cases h2 : (g H p).toNat = v
      · have : v < Pl.length := by omega
        simp [h1, h2, this]
      · simp [h1, h2]
  refine ⟨by simp [hl], fun j hj => ?_, fun j hj => ?_, fun v h1 h2 h3 => ?_⟩
  · simp only [List.length_set] at hj
    rw [gh j]
    have := c.rng j hj
    split
    · exact ri
    · split
      · exact rp
      · exact this
  · simp only [List.length_set] at hj
    rw [gh j]
    have rj := c.rng j hj
    by_cases h1 : p = j
    · subst h1; rw [if_pos rfl, gp, if_pos rfl]
    · rw [if_neg h1]
      by_cases h2 : i = j
      · subst h2; rw [if_pos rfl, gp, if_neg (by omega), if_pos rfl]
      · have n1 : g H i ≠ g H j := fun e => h2 (c.inj hi hj e)
        have n2 : g H p ≠ g H j := fun e => h1 (c.inj hp hj e)
        rw [if_neg h2, gp, if_neg (by omega), if_neg (by omega)]
        exact c.fwd j hj
  · simp only [List.length_set]
    rw [gp] at h3 ⊢
    by_cases e1 : (g H i).toNat = v
    · rw [if_pos e1, gh]; simp [hp]; omega
    · rw [if_neg e1] at h3 ⊢
      by_cases e2 : (g H p).toNat = v
      · rw [if_pos e2, gh]; simp [hi, Ne.symm hne]; omega
      · rw [if_neg e2] at h3 ⊢
        obtain ⟨k1, k2⟩ := c.bwd v h1 h2 h3
        refine ⟨k1, ?_⟩
        rw [gh, if_neg (by rintro rfl; rw [k2] at e2; omega), if_neg (by rintro e; rw [e] at e1; rw [k2] at e1; omega)]
        exact k2

/-- Which are in. -/
def Same (Pl Pl' : List Int) : Prop := Pl'.length = Pl.length ∧ ∀ v : Nat, 1 ≤ v → (0 ≤ g Pl' v ↔ 0 ≤ g Pl v)
theorem Same.refl (Pl : List Int) : Same Pl Pl := ⟨rfl, fun _ _ => Iff.rfl⟩
theorem Same.trans {A B C : List Int} (h : Same A B) (k : Same B C) : Same A C := ⟨k.1.trans h.1, fun v hv => (k.2 v hv).trans (h.2 v hv)⟩

theorem Cons.swap_same {H Pl : List Int} {n : Nat} (c : Cons H Pl n) {i p : Nat} (hi : i < H.length) (hp : p < H.length) (hne : i ≠ p) :
    Same Pl ((Pl.set (g H p).toNat i).set (g H i).toNat p) := by
  refine ⟨by simp, fun v hv => ?_⟩
  have f1 := c.fwd i hi
  have f2 := c.fwd p hp
  simp only [g_set, List.length_set]
  by_cases e1 : (g H i).toNat = v ∧ v < Pl.length
  · rw [if_pos e1, ← e1.1, f1]; omega
  · rw [if_neg e1]
    by_cases e2 : (g H p).toNat = v ∧ v < Pl.length
    · rw [if_pos e2, ← e2.1, f2]; omega
    · rw [if_neg e2]

/-! ### the heap's order -/

def par (i : Nat) : Nat := (i - 1) / 2
theorem par_def (i : Nat) : par i = (i - 1) / 2 := rfl

/-- All is in order but for what stands at i. -/
structure Hole (act H : List Int) (i : Nat) : Prop where
  edge : ∀ j, 0 < j → j < H.length → j ≠ i → par j ≠ i → bef act (g H j) (g H (par j)) = false
  skip : ∀ j, 0 < j → j < H.length → par j = i → 0 < i → bef act (g H j) (g H (par i)) = false
def UpOk (act H : List Int) (i : Nat) : Prop := 0 < i → bef act (g H i) (g H (par i)) = false
def DownOk (act H : List Int) (i : Nat) : Prop := ∀ j, 0 < j → j < H.length → par j = i → bef act (g H j) (g H i) = false
def Heaped (act H : List Int) : Prop := ∀ j, 0 < j → j < H.length → bef act (g H j) (g H (par j)) = false

theorem bef_false {act : List Int} {a b : Int} : bef act a b = false ↔ ¬ (g act a.toNat > g act b.toNat ∨ (g act a.toNat = g act b.toNat ∧ a < b)) := by
  rw [← bef_iff]; simp

theorem bef_asymm {act : List Int} {a b : Int} (h : bef act a b = true) : bef act b a = false := by
  rw [bef_iff] at h; rw [bef_false]; omega
theorem bef_trans_ff {act : List Int} {a b c : Int} (h : bef act a b = false) (k : bef act b c = false) : bef act a c = false := by
  rw [bef_false] at *; omega
theorem bef_tf {act : List Int} {a b c : Int} (h : bef act a b = true) (k : bef act c b = false) : bef act c a = false := by
  rw [bef_iff] at h; rw [bef_false] at *; omega

theorem Hole.heaped {act H : List Int} {i : Nat} (h : Hole act H i) (u : UpOk act H i) (d : DownOk act H i) : Heaped act H := by
  intro j h0 h1
  by_cases e : j = i
  · subst e; exact u h0
  · by_cases e2 : par j = i
    · have := d j h0 h1 e2; rw [e2]; exact this
    · exact h.edge j h0 h1 e e2
theorem Heaped.hole {act H : List Int} (h : Heaped act H) (i : Nat) (hi' : i < H.length) : Hole act H i ∧ UpOk act H i ∧ DownOk act H i := by
  refine ⟨⟨fun j h0 h1 _ _ => h j h0 h1, fun j h0 h1 e hi => ?_⟩, fun h0 => h i h0 hi', fun j h0 h1 e => e ▸ h j h0 h1⟩
  · have a := h j h0 h1
    rw [e] at a
    exact bef_trans_ff a (h i hi (by omega))

theorem g_swap {H : List Int} {i p : Nat} (hi : i < H.length) (hp : p < H.length) (j : Nat) :
    g ((H.set i (g H p)).set p (g H i)) j = if p = j then g H i else if i = j then g H p else g H j := by
  simp only [g_set, List.length_set]
  by_cases h1 : p = j
  · subst h1; simp [hp]
  · by_cases h2 : i = j
    · subst h2; simp [h1, hi]
    · simp [h1, h2]

/-- One step up. -/
theorem Hole.up {act H : List Int} {i : Nat} (h : Hole act H i) (h0 : 0 < i) (hi : i < H.length) (hb : bef act (g H i) (g H (par i)) = true) :
    Hole act ((H.set i (g H (par i))).set (par i) (g H i)) (par i) ∧ DownOk act ((H.set i (g H (par i))).set (par i) (g H i)) (par i) := by
  have d1 := par_def i
  have d2 := par_def (par i)
  have hp : par i < H.length := by omega
  have gs := g_swap hi hp
  have hpi : par i ≠ i := by omega
  refine ⟨⟨fun j j0 j1 e1 e2 => ?_, fun j j0 j1 e1 hp0 => ?_⟩, fun j j0 j1 e1 => ?_⟩ <;> have d3 := par_def j
  · simp only [List.length_set] at j1
    rw [gs, gs, if_neg (Ne.symm e1), if_neg (Ne.symm e2)]
    have e3 : i ≠ j := fun e => e2 (by rw [← e])
    rw [if_neg e3]
    by_cases e4 : i = par j
    · rw [if_pos e4]; exact h.skip j j0 j1 e4.symm h0
    · rw [if_neg e4]; exact h.edge j j0 j1 (Ne.symm e3) (Ne.symm e4)
  · simp only [List.length_set] at j1
    have n1 : par i ≠ par (par i) := by omega
    have n2 : i ≠ par (par i) := by omega
    rw [gs, gs, if_neg n1, if_neg n2, if_neg (by omega)]
    have k := h.edge (par i) hp0 hp hpi (by omega)
    by_cases e3 : i = j
    · rw [if_pos e3]; exact k
    · rw [if_neg e3]
      have k2 := h.edge j j0 j1 (Ne.symm e3) (by omega)
      rw [e1] at k2
      exact bef_trans_ff k2 k
  · simp only [List.length_set] at j1
    rw [gs, gs, if_neg (by omega), if_pos rfl]
    by_cases e3 : i = j
    · rw [if_pos e3]; exact bef_asymm hb
    · rw [if_neg e3]
      have k2 := h.edge j j0 j1 (Ne.symm e3) (by omega)
      rw [e1] at k2
      exact bef_trans_ff k2 (bef_asymm hb)

/-- One step down, to the child c that comes first. -/
theorem Hole.down {act H : List Int} {i c : Nat} (h : Hole act H i) (u : UpOk act H i) (c0 : 0 < c) (hc : c < H.length) (hpc : par c = i) (hb : bef act (g H c) (g H i) = true)
    (hm : ∀ j, 0 < j → j < H.length → par j = i → bef act (g H j) (g H c) = false) :
    Hole act ((H.set i (g H c)).set c (g H i)) c ∧ UpOk act ((H.set i (g H c)).set c (g H i)) c := by
  have hd := par_def c
  have hi : i < H.length := by omega
  have gs := g_swap (H := H) hi hc
  refine ⟨⟨fun j j0 j1 e1 e2 => ?_, fun j j0 j1 e1 hp0 => ?_⟩, fun _ => ?_⟩
  all_goals have d1 := par_def c
  · have d3 := par_def j
    simp only [List.length_set] at j1
    rw [gs, gs, if_neg (Ne.symm e1), if_neg (Ne.symm e2)]
    by_cases e3 : i = j
    · subst e3
      rw [if_pos rfl, if_neg (by omega)]
      exact h.skip c c0 hc hpc j0
    · rw [if_neg e3]
      by_cases e4 : i = par j
      · rw [if_pos e4]; exact hm j j0 j1 e4.symm
      · rw [if_neg e4]; exact h.edge j j0 j1 (Ne.symm e3) (Ne.symm e4)
  · have d3 := par_def j
    simp only [List.length_set] at j1
    rw [gs, gs, if_neg (by omega), if_neg (by omega), if_neg (by omega), if_pos hpc.symm]
    have := h.edge j j0 j1 (by omega) (by omega)
    rwa [e1] at this
  · rw [gs, gs, if_pos rfl, if_neg (by omega), if_pos hpc.symm]
    exact bef_asymm hb


end Go.Proofs.Ord

/-
  above, up, down: the heap is put right again.
-/
set_option linter.unusedVariables false
set_option linter.unusedSimpArgs false
set_option linter.unusedSectionVars false
namespace Go.Proofs.Ord
open Go Go.Sx Go.Proofs

abbrev τi : Ty := .cons (.int .i64) .nil

/-- Where a climb stands. -/
def curOf (start : Int) : List (Int × Unit) → Int
  | [] => start
  | x :: r => curOf x.1 r

theorem curOf_snoc (x : Int × Unit) : ∀ (pre : List (Int × Unit)) (s : Int), curOf s (pre ++ [x]) = x.1
  | [], _ => rfl
  | y :: r, s => curOf_snoc x r y.1

theorem above_c (start : Int) (h : Heap) : callT Try.prog fn_order_above #[.int .i64 start] .val
    (fun r h' => r = .func (.func 66) #[] #[.pointer (pt h.size)] ∧ h' = h.push (.cells #[.int .i64 start] 3)) h := by
  refine callT_gen fun K hK => ?_
  apply S_order_above
  simp only [F_order_above, nw_eq]
  exact hK _ _ ⟨rfl, rfl⟩

theorem above_iter {h : Heap} {b : Nat} {start : Int} (h0 : 0 ≤ start) (h1 : start ≤ 9223372036854775807) (hb : Blk h b 3 [.int .i64 start]) :
    IterSpec Try.prog τi (.func (.func 66) #[] #[.pointer (pt b)]) h (fun pre x => 0 < curOf start pre ∧ x = ((curOf start pre - 1) / 2, ())) (fun pre => curOf start pre ≤ 0) [] [b] := by
  intro A D B0 hB0 sA sD yl hy hA
  have key : callF Try.prog (.func (.func 66) #[] #[.pointer (pt b)]) #[yl] (.tup .nil) (fun _ h2 => ∃ B', (∃ pre, curOf start pre ≤ 0 ∧ A pre B' h2) ∨ D B' h2) h := by
    refine callF_func (S_order_above_1 (a0 := yl) (c0 := ⟨b, 0, none⟩) _ ?_)
    unfold F_order_above_1
    refine lfp_invh (I := fun n _ h' => ∃ pre B, A pre B h' ∧ b ∉ B ∧ Blk h' b 3 [.int .i64 (curOf start pre)] ∧ 0 ≤ curOf start pre ∧ curOf start pre ≤ 9223372036854775807 ∧ n = (curOf start pre).toNat)
      ⟨_, [], B0, hA, fun hb0 => (hB0 b hb0).2.2 (by simp), hb, h0, h1, rfl⟩ ?_
    rintro n s h' X ⟨pre, B, hA, hbB, hb, c0, c1, rfl⟩ hX
    simp only [ld_int (i := 0) hb rfl]
    by_cases hc : curOf start pre > 0
    · have e1 : IntKind.wrap .i64 (curOf start pre - 1) = curOf start pre - 1 := wrap_i64 (by omega) (by omega)
      have e2 : Int.tdiv (curOf start pre - 1) 2 = (curOf start pre - 1) / 2 := Int.tdiv_eq_ediv_of_nonneg (by omega)
      have e3 : IntKind.wrap .i64 ((curOf start pre - 1) / 2) = (curOf start pre - 1) / 2 := wrap_i64 (by omega) (by omega)
      simp only [hc, decide_true, brB_true, ld_int (i := 0) hb rfl, nz_ok (show (2 : Int) ≠ 0 by decide), e1, e2, e3]
      rw [st_ok hb (by simp)]
      have hb' := hb.set 0 (.int .i64 ((curOf start pre - 1) / 2))
      rw [ld_int (i := 0) hb' rfl]
      have hA' := sA pre B h' (setC h' ⟨b, 0, none⟩ (.int .i64 ((curOf start pre - 1) / 2))) [b] hA ((Ext.refl _ _).set _ _ (by simp)) (by
        intro t ht; simp at ht; subst ht; exact ⟨hbB, .inr (by simp)⟩)
      refine CallV.mono (hy pre ((curOf start pre - 1) / 2, ()) B _ [] ⟨⟨hc, rfl⟩, rfl⟩ (by simp) hA') ?_
      rintro v h2 ⟨B', ⟨hF, _⟩, hE, hv⟩
      have hb2 := hb'.extC hE hbB
      have hbB' : b ∉ B' := fun hin => (hF b hin).elim hbB (fun hl => by have := hb'.lt; omega)
      rcases hv with ⟨rfl, hA2⟩ | ⟨rfl, hD⟩
      · refine ⟨true, rfl, ?_⟩
        simp only [Bool.not_true, brB_false]
        refine hX _ _ _ ⟨pre ++ [((curOf start pre - 1) / 2, ())], B', hA2, hbB', ?_, ?_, ?_, rfl⟩ ?_
        · rw [curOf_snoc]; exact hb2
        all_goals rw [curOf_snoc]; simp only []; omega
      · refine ⟨false, rfl, ?_⟩
        simp only [Bool.not_false, brB_true]
        exact ⟨B', .inr hD⟩
    · simp only [hc, decide_false, brB_false]
      exact ⟨B, .inl ⟨pre, by omega, hA⟩⟩
  exact CallV.mono key fun v h2 ⟨_, _, r⟩ => r

theorem round_done {n : Nat} {B S : List Nat} {h h1 h2 : Heap} (ho : OffL n B h h1) (he : Ext S h1 h2) (hS : ∀ s ∈ S, s ∈ B ∨ h.size ≤ s) : ExtC B h h2 := by
  obtain ⟨hs, l, hl, hlB, hc, hc', hk⟩ := ho
  refine ⟨by have := he.1; omega, fun b hb hbB hcb => ?_⟩
  rw [he.2 b (by omega) (fun hin => (hS b hin).elim hbB (fun h => by omega)), hk b (fun e => hc (e ▸ hcb))]

theorem RawC.off {h h' : Heap} {n : Nat} {B : List Nat} {o ab pb : Nat} {ha : Option Addr} {lh ch : Nat} {act Pl : List Int} {step : Int} {ra rp : List Value}
    (r : RawC h o ab pb act Pl step ha lh ch ra rp) (ho : OffL n B h h') : RawC h' o ab pb act Pl step ha lh ch ra rp :=
  ⟨r.O.off ho, r.A.off ho, r.P.off ho, r.oa, r.op, r.ap⟩
theorem RawH.off {h h' : Heap} {n : Nat} {B : List Nat} {o ab hb pb : Nat} {act H Pl : List Int} {step : Int} {ra rh rp : List Value}
    (r : RawH h o ab hb pb act H Pl step ra rh rp) (ho : OffL n B h h') : RawH h' o ab hb pb act H Pl step ra rh rp :=
  ⟨r.toRawC.off ho, r.Hh.off ho, r.oh, r.ah, r.ph⟩
theorem RawC.marked {h h' : Heap} {n : Nat} {o ab pb : Nat} {ha : Option Addr} {lh ch : Nat} {act Pl : List Int} {step : Int} {ra rp : List Value}
    (r : RawC h o ab pb act Pl step ha lh ch ra rp) (ho : Marked n h h') : RawC h' o ab pb act Pl step ha lh ch ra rp :=
  ⟨r.O.marked ho, r.A.marked ho, r.P.marked ho, r.oa, r.op, r.ap⟩
theorem RawH.marked {h h' : Heap} {n : Nat} {o ab hb pb : Nat} {act H Pl : List Int} {step : Int} {ra rh rp : List Value}
    (r : RawH h o ab hb pb act H Pl step ra rh rp) (ho : Marked n h h') : RawH h' o ab hb pb act H Pl step ra rh rp :=
  ⟨r.toRawC.marked ho, r.Hh.marked ho, r.oh, r.ah, r.ph⟩

section
variable (act H Pl : List Int) (n : Nat) (i : Nat)
/-- Where a climb of what stood at i stands: the row H, the places Pl, with it put at cur. -/
structure Climb (H' Pl' : List Int) (cur : Nat) : Prop where
  cons : Cons H' Pl' n
  same : Same Pl Pl'
  len : H'.length = H.length
  lt : cur < H.length
  at_ : g H' cur = g H i
  hole : Hole act H' cur
  down : DownOk act H i → DownOk act H' cur
end

theorem Climb.up {act H Pl H' Pl' : List Int} {n i cur : Nat} (c : Climb act H Pl n i H' Pl' cur) (h0 : 0 < cur) (hb : bef act (g H' cur) (g H' (par cur)) = true) :
    Climb act H Pl n i ((H'.set cur (g H' (par cur))).set (par cur) (g H' cur)) ((Pl'.set (g H' (par cur)).toNat cur).set (g H' cur).toNat (par cur)) (par cur) := by
  have d := par_def cur
  have hlt := c.lt
  have hl := c.len
  have hi : cur < H'.length := by omega
  have hp : par cur < H'.length := by omega
  obtain ⟨k1, k2⟩ := c.hole.up h0 hi hb
  refine ⟨c.cons.swap hi hp (by omega), c.same.trans (c.cons.swap_same hi hp (by omega)), by simp [hl], by omega, ?_, k1, fun _ => k2⟩
  rw [g_swap hi hp, if_pos rfl]; exact c.at_

/-- The cells lag behind by one: what climbs is not put yet. -/
theorem set_lag {Hm : List Int} {cur p : Nat} {v : Int} (hp : p < Hm.length) (hne : cur ≠ p) (hc : cur < Hm.length) :
    (Hm.set cur (g Hm p)).set p v = (((Hm.set cur v).set cur (g (Hm.set cur v) p)).set p (g (Hm.set cur v) cur)) := by
  have e1 : g (Hm.set cur v) p = g Hm p := by rw [g_set, if_neg (by omega)]
  have e2 : g (Hm.set cur v) cur = v := by rw [g_set, if_pos ⟨rfl, hc⟩]
  rw [e1, e2, List.set_set]

theorem set_lagP {Pm : List Int} {cur p u v : Nat} (hne : u ≠ v) :
    (Pm.set u (cur : Int)).set v (p : Int) = ((Pm.set v (cur : Int)).set u (cur : Int)).set v (p : Int) := by
  rw [List.set_comm _ _ (Ne.symm hne), List.set_set]

end Go.Proofs.Ord
