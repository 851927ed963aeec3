/-
  The package dpll: the search, as it hands over the models: what is left of a run, and the values that are taken away again.
-/
import Derived.Test.YtfadkgkkbbcekaaDpA
import Derived.Test.YtfadkgkkbbcekaaSxSg
import Derived.Test.YtfadkgkkbbcekaaCrQ
set_option linter.unusedVariables false
set_option linter.unusedSimpArgs false
namespace Go.Proofs.S
open Go Go.Sx Go.Proofs Go.Cl Go.Dp

theorem nw_later {v : Nat} : ∀ {o L : List Int}, Nw v L o → ∀ y ∈ o, y ∉ L ∧ -y ∉ L ∧ rt y = true ∧ varL y ≤ v
  | [], L, _, y, hy => by cases hy
  | x :: o, L, h, y, hy => by
    rcases List.mem_cons.1 hy with rfl | hy
    · exact ⟨(tv_zero.1 h.1.1).1, (tv_zero.1 h.1.1).2, h.1.2⟩
    · have := nw_later h.2 y hy
      exact ⟨fun q => this.1 (by simp [q]), fun q => this.2.1 (by simp [q]), this.2.2⟩
theorem nw_split {v : Nat} : ∀ {o1 o2 L : List Int}, Nw v L (o1 ++ o2) → Nw v (L ++ o1) o2
  | [], o2, L, h => by simpa using h
  | x :: o1, o2, L, h => by
    have := nw_split (o1 := o1) h.2
    simpa using this
theorem nw_clear {v : Nat} {L o : List Int} {x : Int} (h : Nw v L (x :: o)) : tv (L ++ o) x = 0 := by
  have h0 := tv_zero.1 h.1.1
  have hl := nw_later h.2
  refine tv_zero.2 ⟨fun q => ?_, fun q => ?_⟩
  · rcases List.mem_append.1 q with q | q
    · exact h0.1 q
    · exact (hl x q).1 (by simp)
  · rcases List.mem_append.1 q with q | q
    · exact h0.2 q
    · have := (hl (-x) q).2.1
      rw [Int.neg_neg] at this
      exact this (by simp)
theorem nw_drop {v : Nat} {L o1 o2 : List Int} {x : Int} (h : Nw v L (o1 ++ x :: o2)) : tv (L ++ o2) x = 0 ∧ rt x = true ∧ varL x ≤ v := by
  have h2 := nw_split h
  have h3 := tv_zero.1 (nw_clear h2)
  have h4 := nw_later h x (by simp)
  exact ⟨tv_zero.2 ⟨fun q => h3.1 (by simp at q ⊢; exact q.elim .inl fun q => .inr (.inr q)), fun q => h3.2 (by simp at q ⊢; exact q.elim .inl fun q => .inr (.inr q))⟩, h4.2.2⟩
theorem cells_leaf {v : Value} (h : leafB v = true) : v.cells = #[v] := by cases v <;> first | rfl | cases h

structure MP where
  h0 : Heap
  F : List Nat
  A : List (Sl × Unit) → List Nat → HP
  D : List Nat → HP
  G : List Asn
  sb : Nat
  v : Nat
  fu : Nat
  s : Sl
  sv : Sl

abbrev MP.own (M : MP) (g : Nat) (L : List Int) (R : List Asn) : List Asn := srch M.sb M.v M.s M.sv (g : Int) (M.fu : Int) :: vrow M.v L M.sv :: R
abbrev MP.sure (M : MP) : List (Sl × Unit) → List Nat → HP := fun _ => M.D

def MOut (M : MP) (L : List Int) (R : List Asn) (T : List Ev) (g : Nat) (pre : List (Sl × Unit)) (r : Bool) : HP := fun h2 =>
  (r = true ∧ ∃ xs B', xs.length = (mods T).length ∧ g + ng T ≤ M.fu ∧ It M.h0 M.F M.A M.G (M.own (g + ng T) L R) (pre ++ xs) B' h2) ∨
  (r = false ∧ ∃ T1 T2 xs B', T = T1 ++ .guess :: T2 ∧ g + ng T1 = M.fu ∧ xs.length = (mods T1).length ∧ It M.h0 M.F M.A M.G (M.own (M.fu + 1) L R) (pre ++ xs) B' h2) ∨
  (r = false ∧ ∃ T1 m T2 xs B1 h1 B', T = T1 ++ .model m :: T2 ∧ g + ng T1 ≤ M.fu ∧ xs.length = (mods T1).length ∧ M.A (pre ++ xs) B1 h1 ∧ It M.h0 M.F M.sure M.G (M.own (g + ng T1) L R) [] B' h2)

variable {M : MP} {L L1 L2 : List Int} {R R1 R2 : List Asn} {T U : List Ev} {g : Nat} {pre : List (Sl × Unit)} {r : Bool} {h h2 : Heap}

theorem MOut.left (m : MOut M L R T g pre false h2) : MOut M L R (T ++ U) g pre false h2 := by
  rcases m with ⟨e, _⟩ | ⟨_, T1, T2, xs, B', e, q⟩ | ⟨_, T1, m, T2, xs, B1, h1, B', e, q⟩
  · cases e
  · exact .inr (.inl ⟨rfl, T1, T2 ++ U, xs, B', by rw [e]; simp, q⟩)
  · exact .inr (.inr ⟨rfl, T1, m, T2 ++ U, xs, B1, h1, B', by rw [e]; simp, q⟩)
theorem MOut.right {xs : List (Sl × Unit)} (hx : xs.length = (mods T).length) (m : MOut M L R U (g + ng T) (pre ++ xs) r h2) : MOut M L R (T ++ U) g pre r h2 := by
  rcases m with ⟨e, ys, B', h1, h2, it⟩ | ⟨e, T1, T2, ys, B', h1, h2, h3, it⟩ | ⟨e, T1, m, T2, ys, B1, k1, B', h1, h2, h3, h4, it⟩
  · refine .inl ⟨e, xs ++ ys, B', by rw [List.length_append, mods_append, List.length_append, hx, h1], by rw [ng_append]; omega, ?_⟩
    rw [ng_append, ← Nat.add_assoc, ← List.append_assoc]; exact it
  · refine .inr (.inl ⟨e, T ++ T1, T2, xs ++ ys, B', by rw [h1]; simp, by rw [ng_append]; omega, by rw [List.length_append, mods_append, List.length_append, hx, h3], ?_⟩)
    rw [← List.append_assoc]; exact it
  · refine .inr (.inr ⟨e, T ++ T1, m, T2, xs ++ ys, B1, k1, B', by rw [h1]; simp, by rw [ng_append]; omega, by rw [List.length_append, mods_append, List.length_append, hx, h3], ?_, ?_⟩)
    · rw [← List.append_assoc]; exact h4
    · rw [ng_append, ← Nat.add_assoc]; exact it
theorem MOut.guess (m : MOut M L R U (g + 1) pre r h2) : MOut M L R (.guess :: U) g pre r h2 := by
  have := MOut.right (T := [.guess]) (U := U) (M := M) (L := L) (R := R) (g := g) (pre := pre) (xs := []) (r := r) (h2 := h2) rfl (by simpa [ng] using m)
  exact this

theorem MOut.back {P : Program} {f : FuncId} {args : Array Value} {K : Bool → HP} (hs : Stab M.h0 M.A) (hd : Stab M.h0 M.sure)
    (un : ∀ (A : List (Sl × Unit) → List Nat → HP) (p : List (Sl × Unit)) (B : List Nat) (g' : Nat) (K : HP), Stab M.h0 A → It M.h0 M.F A M.G (M.own g' L1 R1) p B h2 → (∀ h3, It M.h0 M.F A M.G (M.own g' L2 R2) p B h3 → K h3) → dcl P f args K h2)
    (m : MOut M L1 R1 T g pre r h2) (hK : ∀ h3, MOut M L2 R2 T g pre r h3 → K r h3) : dcl P f args (K r) h2 := by
  rcases m with ⟨e, ys, B', h1, h2, it⟩ | ⟨e, T1, T2, ys, B', h1, h2, h3, it⟩ | ⟨e, T1, m, T2, ys, B1, k1, B', h1, h2, h3, h4, it⟩
  · exact un _ _ _ _ _ hs it fun h3 it => hK h3 (.inl ⟨e, ys, B', h1, h2, it⟩)
  · exact un _ _ _ _ _ hs it fun k3 it => hK k3 (.inr (.inl ⟨e, T1, T2, ys, B', h1, h2, h3, it⟩))
  · exact un _ _ _ _ _ hd it fun k3 it => hK k3 (.inr (.inr ⟨e, T1, m, T2, ys, B1, k1, B', h1, h2, h3, h4, it⟩))

set_option maxRecDepth 100000 in
theorem clear_d {A : List (Sl × Unit) → List Nat → HP} {p : List (Sl × Unit)} {B : List Nat} {x : Int} {K : HP} (hs : Stab M.h0 A) (it : It M.h0 M.F A M.G (M.own g (L ++ [x]) R) p B h2) (hr : rt x = true) (hx : varL x ≤ M.v) (h0 : tv L x = 0)
    (hK : ∀ h3, It M.h0 M.F A M.G (M.own g L R) p B h3 → K h3) : dcl Try.prog fn_dpll_search_clear (#[] ++ #[.pointer (some ⟨M.sb, 0, none⟩), .int .i64 x] ++ #[]) K h2 := by
  obtain ⟨S, st, close⟩ := it.openS hs
  refine dcl_of_fn (P := Try.prog) (f := fn_dpll_search_clear) (fn := Try.f89) (args := [.pointer (some ⟨M.sb, 0, none⟩), .int .i64 x]) (τ := .tup .nil) (K := fun _ => K) follows Try.func89 (by kernel_rfl) (by kernel_rfl) (by kernel_rfl) Try.call89
    (Eq.mpr (E_dpll_search_clear (some ⟨M.sb, 0, none⟩) x _ h2) ?_) (fun _ _ k => k)
  refine Hs.clearV (k := 1) (L1 := L) (L2 := []) st 0 rfl rfl hr hx (by rw [List.append_nil]; exact h0) fun h3 st => hK h3 (close _ _ ?_)
  simp only [List.set_cons_succ, List.set_cons_zero, List.append_nil] at st
  exact st

theorem SepTo.packE (As Bs : List Asn) : SepTo (As ++ Bs) (As ++ [starA Bs]) := by have := SepTo.pack As Bs []; rwa [List.append_nil] at this
theorem SepTo.unpackE (As Bs : List Asn) : SepTo (As ++ [starA Bs]) (As ++ Bs) := by have := SepTo.unpack As Bs []; rwa [List.append_nil] at this

abbrev frm (sb b0 b4 : Nat) (X : Asn) (R : List Asn) (o : List Int) (so : Sl) : List Asn :=
  [starA R, cl b0 ty_ptr_dpll_search [.pointer (some ⟨sb, 0, none⟩)], X, lo o so, cl b4 ty_sl_lits_Lit [.slice so.a so.len so.cap]]

set_option maxRecDepth 100000 in
theorem undo_d {A : List (Sl × Unit) → List Nat → HP} {p : List (Sl × Unit)} {B : List Nat} {o : List Int} {so : Sl} {b0 b4 : Nat} {X : Asn} {K : HP} (hs : Stab M.h0 A)
    (it : It M.h0 M.F A M.G (M.own g (L ++ o) (frm M.sb b0 b4 X R o so)) p B h2) (hn : Nw M.v L o) (hl : o.length ≤ 1048576)
    (hK : ∀ h3, It M.h0 M.F A M.G (M.own g L R) p B h3 → K h3) : dcl Try.prog fn_dpll_search_models_1 (#[] ++ #[] ++ #[.pointer (some ⟨b4, 0, none⟩), .pointer (some ⟨b0, 0, none⟩)]) K h2 := by
  obtain ⟨S, st, close⟩ := it.openS hs
  refine dcl_of_fn (P := Try.prog) (f := fn_dpll_search_models_1) (fn := Try.f88) (args := [.pointer (some ⟨b4, 0, none⟩), .pointer (some ⟨b0, 0, none⟩)]) (τ := .tup .nil) (K := fun _ => K) follows Try.func88 (by kernel_rfl) (by kernel_rfl) (by kernel_rfl) Try.call88
    (Eq.mpr (E_dpll_search_models_1 ⟨b4, 0, none⟩ ⟨b0, 0, none⟩ _ h2) ?_) (fun _ _ k => k)
  unfold F_dpll_search_models_1
  rw [st.lds 6 0 rfl rfl]
  have lo1 := osl_len (st.own 5 rfl)
  refine lfp_invh (I := fun m σ h' => ∃ i : Nat, σ = ((i : Int), ()) ∧ i ≤ o.length ∧ Hs [(S, h2)] M.G (M.own g (L ++ o.drop i) (frm M.sb b0 b4 X R o so)) h' ∧ m = o.length - i)
    ⟨_, 0, rfl, by omega, by rw [List.drop_zero]; exact st, rfl⟩ ?_
  rintro m σ h3 X2 ⟨i, rfl, hi, st, rfl⟩ hX
  simp only
  by_cases hlt : i < o.length
  · rw [decide_eq_true (show (i : Int) < (so.len : Int) by omega), brB_true, inc_i (show i < 4611686018427387904 by omega)]
    have hd : o.drop i = o[i] :: o.drop (i + 1) := List.drop_eq_getElem_cons hlt
    have ho : o = o.take i ++ o[i] :: o.drop (i + 1) := by rw [← hd, List.take_append_drop]
    obtain ⟨c0, c1, c2⟩ := nw_drop (L := L) (o1 := o.take i) (x := o[i]) (o2 := o.drop (i + 1)) (by rw [← ho]; exact hn)
    refine rd_ok (τ := i64) (st.own 5 rfl).rsl (List.getElem?_eq_getElem hlt) ?_
    rw [st.ldp 3 0 rfl rfl]
    rw [hd] at st
    refine S_dpll_search_clear (a0 := some ⟨M.sb, 0, none⟩) (a1 := o[i]) _ ?_
    refine Hs.clearV (k := 1) (L1 := L) (L2 := o.drop (i + 1)) st 0 rfl rfl c1 c2 c0 fun h4 st => ?_
    simp only [List.set_cons_succ, List.set_cons_zero] at st
    exact hX _ _ _ ⟨i + 1, rfl, by omega, st, rfl⟩ (by omega)
  · rw [decide_eq_false (show ¬ (i : Int) < (so.len : Int) by omega), brB_false]
    rw [List.drop_eq_nil_of_le (by omega), List.append_nil] at st
    have st := (((st.drop 6 rfl).drop 5 rfl).drop 4 rfl).drop 3 rfl
    simp only [List.eraseIdx_cons_succ, List.eraseIdx_cons_zero] at st
    have st := st.conv (SepTo.unpackE [_, _] R)
    exact hK _ (close _ _ st)

end Go.Proofs.S

set_option linter.unusedVariables false
set_option linter.unusedSimpArgs false
namespace Go.Proofs.S
open Go Go.Sx Go.Proofs Go.Cl Go.Dp

variable {M : MP} {L L1 L2 : List Int} {R R1 R2 : List Asn} {T U : List Ev} {g : Nat} {pre : List (Sl × Unit)} {B : List Nat} {r : Bool} {h h2 : Heap} {cs : List (List Int)} {yl : Value} {MS : List (List Bool)}

abbrev mNx (MS : List (List Bool)) (pre : List (Sl × Unit)) (x : Sl × Unit) (h2 : Heap) (N : List Nat) : Prop := pre.length < MS.length ∧ (ob (MS.getD pre.length []) x.1).P N h2
def Fit (MS : List (List Bool)) (n : Nat) (T : List Ev) : Prop := ∀ i m, (mods T)[i]? = some m → MS[n + i]? = some m
theorem Fit.left {n : Nat} (h : Fit MS n (T ++ U)) : Fit MS n T := fun i m hi => h i m (by rw [mods_append, List.getElem?_append_left (List.getElem?_eq_some_iff.1 hi).1]; exact hi)
theorem Fit.right {n k : Nat} (h : Fit MS n (T ++ U)) (hk : k = (mods T).length) : Fit MS (n + k) U := fun i m hi => by
  have := h (k + i) m (by rw [mods_append, List.getElem?_append_right (by omega)]; rw [show k + i - (mods T).length = i by omega]; exact hi)
  rw [← Nat.add_assoc] at this; exact this

theorem freeV_unique {v : Nat} {L : List Int} {i : Nat} (h1 : 1 ≤ i) (h2 : ∀ j, 1 ≤ j → j < i → tv L (j : Int) ≠ 0) (h3 : i > v ∨ tv L (i : Int) = 0) (h4 : i ≤ v + 1) : freeV v L = i := by
  obtain ⟨f1, f2, f3, f4⟩ := freeV_spec (v := v) (L := L)
  rcases Nat.lt_trichotomy (freeV v L) i with h | h | h
  · exact absurd (f4 (by omega)) (h2 _ f1 h)
  · exact h
  · rcases h3 with h3 | h3
    · omega
    · exact absurd h3 (f3 i h1 h)

structure MH (M : MP) (cs : List (List Int)) (MS : List (List Bool)) (yl : Value) : Prop where
  cli : Client Try.prog (.cons .sl .nil) M.h0 (mNx MS) M.F M.A M.D yl
  sure : Stab M.h0 M.sure
  leaf : leafB yl = true
  inv : Fo.InV M.v cs
  len : cs.length ≤ 1048576
  lens : ∀ c ∈ cs, c.length ≤ 1048576
  vars : M.v ≤ 1048576
  fuel : M.fu ≤ 9223372036854775807

def RC (M : MP) (cs : List (List Int)) (R : List Asn) : Prop := ∀ h', (∀ C ∈ M.G, At h' C) → At h' (starA R) → At h' (lli cs M.s)
theorem RC.cons {X : List Asn} (h : RC M cs R) : RC M cs (starA R :: X) := fun h' hG hA => h h' hG (by
  obtain ⟨S, S1, S2, e, hd, hp, _⟩ := hA
  exact ⟨S1, hp⟩)

def Rec (M : MP) (cs : List (List Int)) (MS : List (List Bool)) (yl : Value) (k : Nat) : Prop :=
  ∀ (L : List Int) (g : Nat) (pre : List (Sl × Unit)) (B : List Nat) (R : List Asn) (h : Heap), RC M cs R → Asg M.v L → freeN M.v L < k → It M.h0 M.F M.A M.G (M.own g L R) pre B h → g ≤ M.fu → g + ng (trace M.v cs k L) ≤ 4611686018427387904 →
    Fit MS pre.length (trace M.v cs k L) → callT Try.prog fn_dpll_search_models #[.pointer (some ⟨M.sb, 0, none⟩), yl] .bool (MOut M L R (trace M.v cs k L) g pre) h

set_option maxRecDepth 100000 in
theorem guess_c (H : MH M cs MS yl) {k : Nat} (ih : Rec M cs MS yl k) (hR : RC M cs R) {x : Int} {b0 b1 b4 : Nat} {o : List Int} {so : Sl} (hA : Asg M.v L) (hr : rt x = true) (hx : varL x ≤ M.v) (h0 : tv L x = 0) (hk : freeN M.v (L ++ [x]) < k)
    (it : It M.h0 M.F M.A M.G (M.own g L (frm M.sb b0 b4 (cl b1 ty_func_sl_bool_bool [yl]) R o so)) pre B h) (hg : g ≤ M.fu) (hb : g + 1 + ng (trace M.v cs k (L ++ [x])) ≤ 4611686018427387904) (hf : Fit MS pre.length (trace M.v cs k (L ++ [x]))) :
    callF Try.prog (.func (.func fn_dpll_search_models_2) #[] #[.pointer (some ⟨b0, 0, none⟩), .pointer (some ⟨b1, 0, none⟩)]) #[.int .i64 x] .bool (MOut M L (frm M.sb b0 b4 (cl b1 ty_func_sl_bool_bool [yl]) R o so) (.guess :: trace M.v cs k (L ++ [x])) g pre) h := by
  refine callF_func ?_
  refine callT_gen (f := fn_dpll_search_models_2) (args := #[.int .i64 x, .pointer (some ⟨b0, 0, none⟩), .pointer (some ⟨b1, 0, none⟩)]) fun K hK => S_dpll_search_models_2 (a0 := x) (c0 := ⟨b0, 0, none⟩) (c1 := ⟨b1, 0, none⟩) K ?_
  unfold F_dpll_search_models_2
  obtain ⟨S, st, close⟩ := it.open H.cli
  have hfu := H.fuel
  rw [st.ldp 3 0 rfl rfl, nn_some]
  simp only [addr_add, Nat.zero_add]
  rw [st.ldi 0 3 rfl rfl, nn_some]
  simp only [addr_add, Nat.zero_add]
  rw [inc_i (show g < 4611686018427387904 by omega)]
  refine st.st1 0 3 rfl (by simp) fun h1 st => ?_
  simp only [List.set_cons_zero, List.set_cons_succ] at st
  rw [st.ldp 3 0 rfl rfl, nn_some]
  simp only [addr_add, Nat.zero_add]
  rw [st.ldi 0 3 rfl rfl, st.ldp 3 0 rfl rfl, nn_some]
  simp only [addr_add, Nat.zero_add]
  rw [st.ldi 0 4 rfl rfl]
  by_cases hgt : g + 1 > M.fu
  · refine brT (decide_eq_true (show ((g + 1 : Nat) : Int) > (M.fu : Int) by omega)) (hK _ _ (.inr (.inl ⟨rfl, [], _, [], B, rfl, ?_, rfl, ?_⟩)))
    · show g + 0 = M.fu; omega
    · rw [List.append_nil, show M.fu + 1 = g + 1 by omega]
      exact close _ _ st
  · refine brF (decide_eq_false (show ¬ ((g + 1 : Nat) : Int) > (M.fu : Int) by omega)) ?_
    rw [st.ldp 3 0 rfl rfl]
    refine Hs.setV (k := 1) st 0 rfl rfl (by decide) (hA.snoc hr hx h0) fun h3 st => ?_
    simp only [List.set_cons_zero, List.set_cons_succ] at st
    rw [st.ldp 3 0 rfl rfl, st.ldp 3 0 rfl rfl, st.ldv 4 0 rfl rfl]
    have it := close _ _ st
    refine call_of (ih (L ++ [x]) (g + 1) pre B _ h3 hR.cons (hA.snoc hr hx h0) hk it (by omega) (by omega) hf) ?_
    intro r h4 m
    refine MOut.back H.cli.stable H.sure (fun A p B g' K hs it hK => clear_d hs it hr hx h0 hK) m.guess fun h5 m => hK _ _ m

end Go.Proofs.S

set_option linter.unusedVariables false
set_option linter.unusedSimpArgs false
namespace Go.Proofs.S
open Go Go.Sx Go.Proofs Go.Cl Go.Dp

variable {M : MP} {L L1 L2 : List Int} {R R1 R2 : List Asn} {T U : List Ev} {g : Nat} {pre : List (Sl × Unit)} {B : List Nat} {r : Bool} {h h2 : Heap} {cs : List (List Int)} {yl : Value} {MS : List (List Bool)}

theorem wrap_neg {i : Nat} (h : i ≤ 1048577) : IntKind.wrap .i64 (0 - (i : Int)) = -(i : Int) := by rw [wrap_i64 (by omega) (by omega)]; omega

set_option maxRecDepth 100000 in
theorem models_step (H : MH M cs MS yl) {k : Nat} (ih : Rec M cs MS yl k) : Rec M cs MS yl (k + 1) := by
  intro L g pre B R h hR hA hk it hg hb hf
  refine callT_gen fun K hK => S_dpll_search_models (a0 := some ⟨M.sb, 0, none⟩) (a1 := yl) K ?_
  unfold F_dpll_search_models
  have hv := H.vars
  have hi := H.inv
  obtain ⟨S, st, close⟩ := it.open H.cli
  have st := st.conv (SepTo.packE [_, _] R)
  refine st.nw fun b0 h1 st => ?_
  rw [cells_leaf H.leaf]
  refine st.nw fun b1 h2 st => ?_
  simp only [List.cons_append, List.nil_append] at st
  rw [st.ldp 3 0 rfl rfl]
  have st := st.conv (SepTo.packE [_, _] [starA R, cl b0 ty_ptr_dpll_search [.pointer (some ⟨M.sb, 0, none⟩)], cl b1 ty_func_sl_bool_bool [yl]])
  refine Hs.follow st hR.cons hA hi H.len H.lens hv fun so h3 st => ?_
  simp only
  refine st.nw fun b4 h4 st => ?_
  simp only [List.cons_append, List.nil_append] at st
  refine st.st1 4 0 rfl (by simp) fun h5 st => ?_
  simp only [List.set_cons_zero, List.set_cons_succ] at st
  have st := st.conv (SepTo.unpack [_, _] _ [_, _])
  simp only [List.cons_append, List.nil_append] at st
  change Hs [(S, h)] M.G (M.own g (L ++ (followP M.v cs L).1) (frm M.sb b0 b4 (cl b1 ty_func_sl_bool_bool [yl]) R (followP M.v cs L).1 so)) h5 at st
  have hn : Nw M.v L (followP M.v cs L).1 := (follow_spec hi (M.v + 1) L).1
  have hA2 : Asg M.v (L ++ (followP M.v cs L).1) := hn.asg hA
  have hap := freeN_app hn
  have hfl := freeN_le (v := M.v) (L := L)
  have hol : (followP M.v cs L).1.length ≤ 1048576 := by omega
  have hcs := follow_cases hi L
  have eT : trace M.v cs (k + 1) L = if (followP M.v cs L).2 ≥ 0 then [] else if freeV M.v (L ++ (followP M.v cs L).1) > M.v then [.model (modelOf M.v (L ++ (followP M.v cs L).1))] else
      .guess :: (trace M.v cs k (L ++ (followP M.v cs L).1 ++ [-((freeV M.v (L ++ (followP M.v cs L).1) : Nat) : Int)]) ++ .guess :: trace M.v cs k (L ++ (followP M.v cs L).1 ++ [((freeV M.v (L ++ (followP M.v cs L).1) : Nat) : Int)])) := by
    conv => lhs; unfold trace
  generalize trace M.v cs (k + 1) L = TT at *
  generalize ho : (followP M.v cs L).1 = o at *
  generalize hbad : (followP M.v cs L).2 = bad at *
  -- what is done on the way out
  have un : ∀ (A : List (Sl × Unit) → List Nat → HP) (p : List (Sl × Unit)) (B : List Nat) (g' : Nat) (K : HP) (hq : Heap), Stab M.h0 A → It M.h0 M.F A M.G (M.own g' (L ++ o) (frm M.sb b0 b4 (cl b1 ty_func_sl_bool_bool [yl]) R o so)) p B hq →
      (∀ h3, It M.h0 M.F A M.G (M.own g' L R) p B h3 → K h3) → dcl Try.prog fn_dpll_search_models_1 (#[] ++ #[] ++ #[.pointer (some ⟨b4, 0, none⟩), .pointer (some ⟨b0, 0, none⟩)]) K hq := fun A p B g' K hq hs it hK => undo_d hs it hn hol hK
  have outw : ∀ (r : Bool) (hq : Heap), MOut M (L ++ o) (frm M.sb b0 b4 (cl b1 ty_func_sl_bool_bool [yl]) R o so) TT g pre r hq → dcl Try.prog fn_dpll_search_models_1 (#[] ++ #[] ++ #[.pointer (some ⟨b4, 0, none⟩), .pointer (some ⟨b0, 0, none⟩)]) (K r) hq := fun r hq m =>
    MOut.back H.cli.stable H.sure (fun A p B g' K hs it hK => un A p B g' K hq hs it hK) m fun h3 m => hK _ _ m
  by_cases hbg : bad ≥ 0
  · rw [if_pos hbg] at eT
    subst eT
    refine brT (decide_eq_true hbg) (outw true _ (.inl ⟨rfl, [], B, rfl, by show g + 0 ≤ _; omega, ?_⟩))
    rw [List.append_nil]
    exact close _ _ st
  rw [if_neg hbg] at eT
  refine brF (decide_eq_false hbg) ?_
  refine lfp_invh (I := fun m σ h' => ∃ i : Nat, σ = ((i : Int), ()) ∧ 1 ≤ i ∧ i ≤ M.v + 1 ∧ h' = h5 ∧ (∀ j, 1 ≤ j → j < i → tv (L ++ o) (j : Int) ≠ 0) ∧ m = M.v + 1 - i)
    ⟨_, 1, rfl, by omega, by omega, rfl, fun j h1 h2 => by omega, rfl⟩ ?_
  rintro m σ h6 X ⟨i, rfl, hi1, hi2, rfl, hj, rfl⟩ hX
  simp only
  rw [st.ldp 3 0 rfl rfl, nn_some, st.ldi 0 0 rfl rfl]
  refine jn_mid (M := fun t h' => t = decide (i ≤ M.v ∧ tv (L ++ o) (i : Int) ≠ 0) ∧ h' = h6) ?_ ?_
  rotate_left
  · intro J hJ
    by_cases hle : i ≤ M.v
    · refine brT (decide_eq_true (show (i : Int) ≤ (M.v : Int) by omega)) ?_
      rw [st.ldp 3 0 rfl rfl, nn_some]
      simp only [addr_add, Nat.zero_add]
      rw [st.lds 0 2 rfl rfl]
      refine rd_ok (τ := i64) (st.own 1 rfl).rsl (row_at hle) (hJ _ _ ⟨?_, rfl⟩)
      by_cases hz : tv (L ++ o) (i : Int) = 0
      · rw [hz, decide_eq_false (fun q => q.2 rfl)]; rfl
      · rw [decide_eq_true ⟨hle, hz⟩]; exact bne_iff_ne.2 hz
    · refine brF (decide_eq_false (show ¬ (i : Int) ≤ (M.v : Int) by omega)) (hJ _ _ ⟨?_, rfl⟩)
      rw [decide_eq_false (fun q => hle q.1)]
  rintro t h7 ⟨rfl, rfl⟩
  by_cases hc : i ≤ M.v ∧ tv (L ++ o) (i : Int) ≠ 0
  · refine brT (decide_eq_true hc) ?_
    rw [inc_i (show i < 4611686018427387904 by omega)]
    refine hX _ _ _ ⟨i + 1, rfl, by omega, by omega, rfl, fun j h1 h2 => ?_, rfl⟩ (by omega)
    by_cases hji : j < i
    · exact hj j h1 hji
    · rw [show j = i by omega]; exact hc.2
  refine brF (decide_eq_false hc) ?_
  have hfv : freeV M.v (L ++ o) = i := freeV_unique hi1 hj (by
    by_cases q : i > M.v
    · exact .inl q
    · refine .inr ?_
      by_cases q2 : tv (L ++ o) (i : Int) = 0
      · exact q2
      · exact absurd ⟨by omega, q2⟩ hc) hi2
  rw [hfv] at eT
  rw [st.ldp 3 0 rfl rfl, nn_some, st.ldi 0 0 rfl rfl]
  by_cases hgt : i > M.v
  · -- all have a value
    rw [if_pos hgt] at eT
    subst eT
    refine brT (decide_eq_true (show (i : Int) > (M.v : Int) by omega)) ?_
    rw [st.ldp 3 0 rfl rfl, nn_some, st.ldi 0 0 rfl rfl]
    refine Hs.mks1 (n := M.v) (τ := .bool) (z := false) st (by omega) (by decide) fun s4 h8 st => ?_
    simp only [List.cons_append, List.nil_append] at st
    have l4 : s4.len = M.v := by rw [osl_len (st.own 7 rfl)]; simp
    refine lfp_invh (I := fun μ σ h' => ∃ i : Nat, σ = ((i : Int), ()) ∧ i ≤ M.v ∧ Hs [(S, h)] M.G (M.own g (L ++ o) (frm M.sb b0 b4 (cl b1 ty_func_sl_bool_bool [yl]) R o so ++ [ob (((List.range i).map fun (i : Nat) => decide (tv (L ++ o) ((i : Int) + 1) > 0)) ++ List.replicate (M.v - i) false) s4])) h' ∧ μ = M.v - i) ⟨_, 0, rfl, by omega, by simpa using st, rfl⟩ ?_
    clear st
    rintro μ2 σ h9 X2 ⟨w, rfl, hw, st, em2⟩ hX2
    simp only [List.cons_append, List.nil_append] at st ⊢
    by_cases hlt2 : w < M.v
    · rw [decide_eq_true (show (w : Int) < (s4.len : Int) by omega), brB_true, inc_i (show w < 4611686018427387904 by omega)]
      rw [st.ldp 3 0 rfl rfl, nn_some]
      simp only [addr_add, Nat.zero_add]
      rw [st.lds 0 2 rfl rfl]
      refine rd_ok (τ := i64) (st.own 1 rfl).rsl (row_at (show w + 1 ≤ M.v by omega)) ?_
      refine st.wrE (τ := .bool) 7 rfl (show w < _ by simp; omega) _ fun h10 st => ?_
      refine hX2 _ _ _ ⟨w + 1, rfl, by omega, ?_, rfl⟩ (by omega)
      simp only [List.set_cons_zero, List.set_cons_succ] at st
      have e := set_map_range' (fun (i : Nat) => decide (tv (L ++ o) ((i : Int) + 1) > 0)) M.v w false hlt2
      have e1 : decide (tv (L ++ o) ((w : Int) + 1) > 0) = decide (tv (L ++ o) (((w + 1 : Nat)) : Int) > 0) := rfl
      rw [e1] at e
      rw [e] at st
      exact st
    rw [decide_eq_false (show ¬ (w : Int) < (s4.len : Int) by omega), brB_false]
    have ew : w = M.v := by omega
    subst ew
    rw [Nat.sub_self, List.replicate_zero, List.append_nil] at st
    rw [st.ldv 4 0 rfl rfl]
    have it2 := close _ _ st
    refine It.giveD H.cli it2 (x := (s4, ())) 7 rfl (fun N hN => ?_) (fun B' h10 it3 => ?_) (fun B' h10 it3 => ?_)
    · have hm : MS[pre.length]? = some (modelOf M.v (L ++ o)) := hf 0 _ rfl
      refine ⟨(List.getElem?_eq_some_iff.1 hm).1, ?_⟩
      rw [List.getD_eq_getElem?_getD, hm]
      exact hN
    · refine outw true _ (.inl ⟨rfl, [(s4, ())], B', rfl, by show g + 0 ≤ _; omega, it3⟩)
    · refine outw false _ (.inr (.inr ⟨rfl, [], modelOf M.v (L ++ o), [], [], B, h9, B', rfl, by show g + 0 ≤ _; omega, rfl, ?_, it3⟩))
      rw [List.append_nil]; exact it2.1
  -- two guesses
  rw [if_neg hgt] at eT
  refine brF (decide_eq_false (show ¬ (i : Int) > (M.v : Int) by omega)) ?_
  rw [wrap_neg (by omega)]
  have htv : tv (L ++ o) (i : Int) = 0 := by
    by_cases q2 : tv (L ++ o) (i : Int) = 0
    · exact q2
    · exact absurd ⟨by omega, q2⟩ hc
  obtain ⟨r1, v1, r2, v2⟩ := lit_pos hi1 (show i ≤ M.v by omega) hv
  have a1 := freeN_snoc r1 v1 htv
  have a2 := freeN_snoc r2 v2 (tv_neg0 htv)
  have hngT : ng TT = ng (trace M.v cs k (L ++ o ++ [-(i : Int)])) + 1 + (ng (trace M.v cs k (L ++ o ++ [(i : Int)])) + 1) := by rw [eT]; simp only [ng, ng_append]; omega
  have hf1 : Fit MS pre.length (trace M.v cs k (L ++ o ++ [-(i : Int)])) := by
    have : Fit MS pre.length ((.guess :: trace M.v cs k (L ++ o ++ [-(i : Int)])) ++ (.guess :: trace M.v cs k (L ++ o ++ [(i : Int)]))) := by rw [eT] at hf; exact hf
    exact this.left
  have hf2 : ∀ n, n = (mods (trace M.v cs k (L ++ o ++ [-(i : Int)]))).length → Fit MS (pre.length + n) (trace M.v cs k (L ++ o ++ [(i : Int)])) := fun n hn2 => by
    have : Fit MS pre.length ((.guess :: trace M.v cs k (L ++ o ++ [-(i : Int)])) ++ (.guess :: trace M.v cs k (L ++ o ++ [(i : Int)]))) := by rw [eT] at hf; exact hf
    exact this.right hn2
  have eT2 : TT = (.guess :: trace M.v cs k (L ++ o ++ [-(i : Int)])) ++ (.guess :: trace M.v cs k (L ++ o ++ [(i : Int)])) := eT
  have it2 := close _ _ st
  refine callF_of (guess_c H ih hR hA2 r2 v2 (tv_neg0 htv) (by omega) it2 hg (by omega) hf1) ?_
  intro r h8 m
  refine jn_in fun J hJ => ?_
  have fin : ∀ (r : Bool) (hq : Heap), MOut M (L ++ o) (frm M.sb b0 b4 (cl b1 ty_func_sl_bool_bool [yl]) R o so) TT g pre r hq → J r hq := fun r hq m => hJ _ _ (outw r hq m)
  cases r with
  | false =>
    refine brF rfl (fin false _ ?_)
    rw [eT2]
    exact m.left
  | true =>
    refine brT rfl ?_
    rcases m with ⟨_, xs, B2, hxs, hng, it3⟩ | ⟨e, _⟩ | ⟨e, _⟩
    · simp only [ng] at hng it3
      refine callF_of (guess_c H ih hR hA2 r1 v1 htv (by omega) it3 (by omega) (by omega) (by rw [List.length_append]; exact hf2 _ hxs)) ?_
      intro r h9 m2
      refine fin r _ ?_
      rw [eT2]
      exact MOut.right hxs (by simpa only [ng] using m2)
    · cases e
    · cases e

theorem models_rec (H : MH M cs MS yl) : ∀ k, Rec M cs MS yl k
  | 0 => fun L g pre B R h _ hA hk => by omega
  | k + 1 => models_step H (models_rec H k)

end Go.Proofs.S
