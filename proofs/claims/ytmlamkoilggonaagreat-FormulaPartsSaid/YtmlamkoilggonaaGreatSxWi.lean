/-
  A part of what is owned by itself, for a call that turns it and brings more. Nothing here names a program.
-/
import Derived.Test.YtmlamkoilggonaaGreatSxSg
import Derived.Test.YtmlamkoilggonaaGreatFoNo
import Derived.Test.YtmlamkoilggonaaGreatSxOv
set_option linter.unusedVariables false
namespace Go.Sx
open Go

theorem brT {b : Bool} {A B : HP} {h : Heap} (e : b = true) (hA : A h) : brB b A B h := by subst e; exact hA
theorem brF {b : Bool} {A B : HP} {h : Heap} (e : b = false) (hB : B h) : brB b A B h := by subst e; exact hB

section
variable {fr : Fr} {G As : List Asn} {h h' : Heap} {A : Asn}

/-- One of what is owned by itself: what comes of it, and beside it, comes of it among the others. -/
theorem Hs.within (st : Hs fr G As h) (k : Nat) (hk : As[k]? = some A) :
    ∃ S1, Hs [(S1, h)] G [A] h ∧ ∀ (A' : Asn) Bs h', Hs [(S1, h)] G (A' :: Bs) h' → Hs fr G (As.set k A' ++ Bs) h' := by
  obtain ⟨S, hs, hz, hf⟩ := st
  obtain ⟨S1, S2, hm, hd, hA, hr, hw⟩ := hs.focus k hk
  refine ⟨S1, ⟨S1, ⟨S1, [], by simp, by simp, hA, rfl⟩, fun B hB => ?_, fun p hp => ?_⟩, ?_⟩
  · obtain ⟨SB, pB, dB⟩ := hz B hB
    exact ⟨SB, pB, fun b hb hin => dB b hb ((hm b).2 (.inl hin))⟩
  · simp at hp; subst hp; exact ⟨Ext.refl' _ _, fun b hb => .inl hb⟩
  · rintro A' Bs h' ⟨S', ⟨SA, SB, rfl, hdj, hA', hB'⟩, hz', hf'⟩
    obtain ⟨x, hin⟩ := hf' (S1, h) (by simp)
    have hlt2 : ∀ b ∈ S2, b < h.size := fun b hb => (hr.cel b hb).lt
    have hr' : Sep (As.eraseIdx k) S2 h' := hr.keep x.1 fun b hb => x.2 b (hlt2 b hb) (fun hi => hd b hi hb)
    have off2 : ∀ b ∈ SA ++ SB, b ∉ S2 := fun b hb hi => by
      rcases hin b hb with k | k
      · exact hd b k hi
      · have := hlt2 b hi; simp only at k; omega
    obtain ⟨U, hU, hsU⟩ := hw A' SA h' hr' hA' (fun b hb => off2 b (List.mem_append_left _ hb))
    have hdU : ∀ b ∈ U, b ∉ SB := fun b hb hi => by
      rcases (hU b).1 hb with k | k
      · exact hdj b k hi
      · exact off2 b (List.mem_append_right _ hi) k
    have hSS : ∀ b ∈ U ++ SB, b ∈ S ∨ h.size ≤ b := fun b hb => by
      have : b ∈ SA ++ SB ∨ b ∈ S2 := by
        rcases List.mem_append.1 hb with k | k
        · exact ((hU b).1 k).imp (fun k => List.mem_append_left _ k) id
        · exact .inl (List.mem_append_right _ k)
      rcases this with k | k
      · exact (hin b k).imp (fun k => (hm b).2 (.inl k)) id
      · exact .inl ((hm b).2 (.inr k))
    refine ⟨U ++ SB, hsU.append hB' hdU, fun B hB => ?_, fun p hp => ?_⟩
    · obtain ⟨SB', pB, dB⟩ := hz B hB
      refine ⟨SB', Asn.ext pB x (fun b hb hi => dB b hb ((hm b).2 (.inl hi))), fun b hb hi => ?_⟩
      rcases hSS b hi with k | k
      · exact dB b hb k
      · have := At.lt pB b hb; omega
    · obtain ⟨e, hb⟩ := hf p hp
      refine ⟨e.trans x fun b hb' => hb b ((hm b).2 (.inl hb')), fun b hb' => ?_⟩
      rcases hSS b hb' with k | k
      · exact hb b k
      · exact .inr (Nat.le_trans e.1 k)

/-- A call that turns nothing that is owned. -/
theorem Hs.beside (st : Hs fr G As h) : Hs [([], h)] G [] h ∧ ∀ Bs h', Hs [([], h)] G Bs h' → Hs fr G (As ++ Bs) h' := by
  obtain ⟨S, hs, hz, hf⟩ := st
  refine ⟨⟨[], rfl, fun B hB => let ⟨SB, pB, _⟩ := hz B hB; ⟨SB, pB, by simp⟩, fun p hp => ?_⟩, ?_⟩
  · simp at hp; subst hp; exact ⟨Ext.refl' _ _, fun b hb => by cases hb⟩
  · rintro Bs h' ⟨SB, hB', hz', hf'⟩
    obtain ⟨x, hin⟩ := hf' ([], h) (by simp)
    have hnew : ∀ b ∈ SB, h.size ≤ b := fun b hb => (hin b hb).elim (fun k => by cases k) id
    have hlt : ∀ b ∈ S, b < h.size := fun b hb => (hs.cel b hb).lt
    have hSS : ∀ b ∈ S ++ SB, b ∈ S ∨ h.size ≤ b := fun b hb => (List.mem_append.1 hb).imp id (hnew b)
    refine ⟨S ++ SB, (hs.keep x.1 fun b hb => x.2 b (hlt b hb) (by simp)).append hB' (fun b hb hi => by have := hlt b hb; have := hnew b hi; omega), (hz.mono hSS).ext x (by simp), (hf.mono hSS).ext x (by simp)⟩

/-- All that stands behind is frozen. -/
theorem Hs.freezeR : ∀ {Bs As : List Asn} {G : List Asn}, Hs fr G (As ++ Bs) h → Hs fr (G ++ Bs) As h
  | [], As, G, st => by simpa using st
  | B :: Bs, As, G, st => by
    have st1 := st.freeze As.length (A := B) (by simp)
    rw [show (As ++ B :: Bs).eraseIdx As.length = As ++ Bs by rw [List.eraseIdx_append_of_length_le (Nat.le_refl _)]; simp] at st1
    have := Hs.freezeR st1
    simpa using this

/-- What is frozen, by its place in the list. -/
theorem Hs.fzm (st : Hs fr G As h) (hA : A ∈ G) : At h A := by
  obtain ⟨k, hk⟩ := List.getElem?_of_mem hA
  exact st.fz k hk

/-- What is frozen, once more. -/
theorem Hs.gainM (st : Hs fr G As h) (hA : A ∈ G) : Hs fr (G ++ [A]) As h := by
  obtain ⟨k, hk⟩ := List.getElem?_of_mem hA
  exact st.gain k hk fun S h p => ⟨S, p, fun b hb => hb⟩
/-- A slice of one's own is frozen, as one that is read. -/
theorem Hs.froz {α : Type} {t : TypeId} {enc : α → Value} {xs : List α} {s : Sl} (st : Hs fr G As h) (k : Nat) (hk : As[k]? = some (osl t enc xs s)) : Hs fr (G ++ [rsl enc xs s]) (As.eraseIdx k) h := by
  have st := st.freeze k hk
  have st := st.gain (B := rsl enc xs s) G.length (A := osl t enc xs s) (by simp) fun S h p => ⟨S, osl_rsl p, fun b hb => hb⟩
  exact st.less fun A hA => by
    rcases List.mem_append.1 hA with h | h
    · exact List.mem_append_left _ (List.mem_append_left _ h)
    · exact List.mem_append_right _ h
/-- The same, in place of what was frozen last. -/
theorem Hs.swapF {α : Type} {t : TypeId} {enc : α → Value} {xs : List α} {s : Sl} {X : Asn} (st : Hs fr (G ++ [X]) As h) (k : Nat) (hk : As[k]? = some (osl t enc xs s)) : Hs fr (G ++ [rsl enc xs s]) (As.eraseIdx k) h :=
  (st.froz k hk).less fun A hA => by
    rcases List.mem_append.1 hA with h | h
    · exact List.mem_append_left _ (List.mem_append_left _ h)
    · exact List.mem_append_right _ h
theorem Hs.fzL {X : Asn} (st : Hs fr (G ++ [X]) As h) : At h X := st.fz G.length (by simp)

end
end Go.Sx

/-
  lits.Vars, a search in a sorted row of numbers, an insertion: contracts.
-/
set_option linter.unusedVariables false
set_option linter.unusedSimpArgs false
namespace Go.Proofs.S
open Go Go.Sx Go.Proofs Go.Cl

variable {h : Heap} {c d : List Int} {s s2 : Sl} {fr : Fr} {G As : List Asn} {b : Nat}

theorem hitG {S : List Nat} : ∀ (GG : List Asn), (∀ C ∈ GG, C ∈ G) → FzOk G S h → ∃ F : List Nat, (∀ b ∈ F, b < h.size ∧ b ∉ S) ∧ ∀ h1, Ext [] h h1 → ∀ C ∈ GG, ∃ SC, C.P SC h1 ∧ ∀ b ∈ SC, b ∈ F
  | [], _, _ => ⟨[], by simp, by simp⟩
  | C :: GG, hsub, hz => by
    obtain ⟨F, hF, hall⟩ := hitG GG (fun C hC => hsub C (List.mem_cons_of_mem _ hC)) hz
    obtain ⟨S1, p1, d1⟩ := hz C (hsub C (by simp))
    refine ⟨S1 ++ F, fun b hb => (List.mem_append.1 hb).elim (fun k => ⟨At.lt p1 b k, d1 b k⟩) (hF b), fun h1 x D hD => ?_⟩
    rcases List.mem_cons.1 hD with rfl | hD
    · exact ⟨S1, Asn.ext p1 x (by simp), fun b hb => List.mem_append_left _ hb⟩
    · obtain ⟨SC, p, q⟩ := hall h1 x D hD
      exact ⟨SC, p, fun b hb => List.mem_append_right _ (q b hb)⟩

theorem less_int (x y : Int) : callT Tryz.prog fn_cmp_Less_int #[.int .i64 x, .int .i64 y] .bool (fun r h' => r = decide (x < y) ∧ h' = h) h := by
  have nan : ∀ (x : Int) (h : Heap), callT Tryz.prog fn_cmp_isNaN_int #[.int .i64 x] .bool (fun r h' => r = false ∧ h' = h) h := fun x h => by
    refine S_cmp_isNaN_int (a0 := x) _ ?_
    unfold F_cmp_isNaN_int
    exact ⟨by simp, rfl⟩
  refine callT_gen fun K hK => S_cmp_Less_int (a0 := x) (a1 := y) K ?_
  unfold F_cmp_Less_int
  refine call_of (nan x h) ?_
  rintro _ h2 ⟨rfl, e⟩; subst e
  exact brF rfl (hK _ _ ⟨rfl, rfl⟩)

/-- Where a number stands in a row, or would; in a row in order, whether it is there. -/
theorem bsearch_int {xs : List Int} (hA : At h (rsl i64.enc xs s)) (hl : xs.length ≤ 1099511627776) (v : Int) :
    callT Tryz.prog fn_slices_BinarySearch_int_int #[.slice s.a s.len s.cap, .int .i64 v] (.tup (.cons i64 (.cons .bool .nil)))
      (fun r h' => (∃ i : Nat, r.1 = (i : Int) ∧ i ≤ xs.length) ∧ (r.2.1 = true → v ∈ xs) ∧ (xs.Pairwise (· < ·) → (r.2.1 = true ↔ v ∈ xs)) ∧ h' = h) h := by
  refine callT_gen fun K hK => S_slices_BinarySearch_int_int (a0 := s) (a1 := v) K ?_
  unfold F_slices_BinarySearch_int_int
  have l1 := rsl_len hA
  rw [l1]
  refine lfp_invh (I := fun m σ h' => ∃ i j : Nat, σ = ((j : Int), (i : Int), ()) ∧ i ≤ j ∧ j ≤ xs.length ∧ (xs.Pairwise (· < ·) → (∀ k (hk : k < xs.length), k < i → xs[k] < v) ∧ ∀ k (hk : k < xs.length), j ≤ k → ¬ xs[k] < v) ∧ h' = h ∧ m = j - i)
    ⟨_, 0, xs.length, rfl, by omega, by omega, fun _ => ⟨fun k _ hk => by omega, fun k hk hk' => by omega⟩, rfl, rfl⟩ ?_
  rintro m σ h' X ⟨i, j, rfl, hij, hj, hs, rfl, em⟩ hX
  by_cases hlt : i < j
  · have hmid : (i + j) / 2 < xs.length := by omega
    simp only [dlt_t hlt, brB_true, ge0_ok (show (0 : Int) ≤ 1 by decide), mid_eq (show i ≤ 1099511627776 by omega) (show j ≤ 1099511627776 by omega), inc_i (show (i + j) / 2 < 4611686018427387904 by omega)]
    rw [← l1]
    refine rdE (τ := i64) hA hmid ?_
    refine call_of (less_int xs[(i + j) / 2] v) ?_
    rintro _ h2 ⟨rfl, e⟩; subst e
    refine jn_in fun J hJ => ?_
    by_cases hneg : xs[(i + j) / 2] < v
    · refine brT (decide_eq_true hneg) (hJ _ _ (hX _ _ _ ⟨(i + j) / 2 + 1, j, rfl, by omega, hj, fun hp => ⟨fun k hk hki => ?_, (hs hp).2⟩, rfl, rfl⟩ (by omega)))
      rcases Nat.lt_or_ge k ((i + j) / 2) with hk2 | hk2
      · exact Int.lt_trans (List.pairwise_iff_getElem.1 hp k _ hk hmid hk2) hneg
      · have : k = (i + j) / 2 := by omega
        subst this; exact hneg
    · refine brF (decide_eq_false hneg) (hJ _ _ (hX _ _ _ ⟨i, (i + j) / 2, rfl, by omega, by omega, fun hp => ⟨(hs hp).1, fun k hk hki hc' => ?_⟩, rfl, rfl⟩ (by omega)))
      rcases Nat.lt_or_ge ((i + j) / 2) k with hk2 | hk2
      · exact hneg (Int.lt_trans (List.pairwise_iff_getElem.1 hp _ k hmid hk hk2) hc')
      · have : k = (i + j) / 2 := by omega
        subst this; exact hneg hc'
  · have eij : i = j := by omega
    subst eij
    simp only [dlt_f hlt, brB_false]
    have no : xs.Pairwise (· < ·) → (∀ hi : i < xs.length, xs[i] ≠ v) → v ∉ xs := fun hp hne hm => by
      obtain ⟨k, hk, e⟩ := List.mem_iff_getElem.1 hm
      rcases Nat.lt_trichotomy k i with h1 | h1 | h1
      · have := (hs hp).1 k hk h1; omega
      · subst h1; exact hne hk e
      · have h2 := List.pairwise_iff_getElem.1 hp i k (by omega) hk h1
        have h3 := (hs hp).2 i (by omega) (Nat.le_refl _)
        omega
    by_cases hin : i < xs.length
    · simp only [dlt_t hin, brB_true]
      rw [← l1]
      refine rdE (τ := i64) hA hin ?_
      by_cases he : xs[i] = v
      · refine brT (by simpa using he) (hK _ _ ⟨⟨i, rfl, by omega⟩, fun _ => he ▸ List.getElem_mem hin, fun _ => ⟨fun _ => he ▸ List.getElem_mem hin, fun _ => rfl⟩, rfl⟩)
      · refine brF (by simpa using he) ?_
        refine rdE (τ := i64) hA hin ?_
        refine S_slices_isNaN_int (a0 := xs[i]) _ ?_
        unfold F_slices_isNaN_int
        refine brF (by simp) (hK _ _ ⟨⟨i, rfl, by omega⟩, fun e => (by cases e), fun hp => ⟨fun e => (by cases e), fun hm => absurd hm (no hp fun _ => he)⟩, rfl⟩)
    · simp only [dlt_f hin, brB_false]
      exact hK _ _ ⟨⟨i, rfl, hj⟩, fun e => (by cases e), fun hp => ⟨fun e => (by cases e), fun hm => absurd hm (no hp fun hi => absurd hi hin)⟩, rfl⟩

/-! ### an insertion -/
theorem info3 : (Tryz.prog.info? 3).isSome = true := by kernel_rfl
theorem cells3 : Tryz.prog.cellsOf 3 = 1 := by kernel_rfl
theorem size3 (w : World) : (Go.sizeOf 3).run Tryz.prog w = .ok 1 w := by
  obtain ⟨i, hi⟩ := Option.isSome_iff_exists.1 info3
  rw [run_sizeOf w hi, cells3]
theorem over_int {bv b2 j lb cb : Nat} {t1 t2 : TypeId} {c1 c2 : List Value} (k1 : Blk h bv t1 c1) (k2 : Blk h b2 t2 c2) (hne : bv ≠ b2) (hc : c2 ≠ []) :
    callT Tryz.prog fn_slices_overlaps_int #[.slice (some ⟨bv, 0, none⟩) 1 1, .slice (some ⟨b2, j, none⟩) lb cb] .bool (fun r h' => r = false ∧ h' = h) h :=
  overlaps_c (P := Tryz.prog) (fn := Tryz.f133) (tS := 29) (tR := 4) (e := 3) Tryz.func133 (by kernel_rfl) (by kernel_rfl) (by kernel_rfl) (by kernel_rfl) Tryz.underlying29 size3 k1 k2 hne hc
abbrev oi (k : List Int) (s : Sl) : Asn := osl ty_int i64.enc k s
theorem Hs.insertI {bv : Nat} {x : Int} {K : Sl → HP} (st : Hs fr G As h) (k kx : Nat) (hk : As[k]? = some (oi c s)) (hkx : As[kx]? = some (cl bv ty_int [.int .i64 x])) (hne : k ≠ kx)
    {i : Nat} {ii : Int} (hii : ii = i) (hi : i ≤ c.length) (hlen : c.length ≤ 1048576) (hK : ∀ s' h', Hs fr G (As.set k (oi (c.take i ++ x :: c.drop i) s')) h' → K s' h') :
    callT Tryz.prog fn_slices_Insert_int_int #[.slice s.a s.len s.cap, .int .i64 ii, .slice (some ⟨bv, 0, none⟩) 1 1] .sl K h := by
  subst hii
  refine S_slices_Insert_int_int (a0 := s) (a1 := (i : Int)) (a2 := ⟨some ⟨bv, 0, none⟩, 1, 1⟩) K ?_
  exact Hs.insert (P := Tryz.prog) (τ := i64) (t := ty_int) (by_ := 8) (z := .int .i64 0) (fov := fn_slices_overlaps_int) (frr := fn_slices_rotateRight_int) (x := x) st k kx hk hkx hne leaf_int hi (by omega) (by decide) over_int hK

/-! ### the variables -/

/-- What the literals' variables are, in their order. -/
def vrL (c : List Int) : List (Int × Unit) := (c.filter rt).map fun x => (varL x, ())
abbrev vrNx (L : List (Int × Unit)) (pre : List (Int × Unit)) (x : Int × Unit) : Prop := ∃ r, L = pre ++ x :: r
abbrev vrFin (L pre : List (Int × Unit)) : Prop := pre = L
abbrev vrV (b0 : Nat) : Value := .func (.func fn_lits_variables_1) #[] #[.pointer (some ⟨b0, 0, none⟩)]
abbrev vrG (b0 : Nat) (c : List Int) (s : Sl) : List Asn := [cl b0 ty_sl_lits_Lit [.slice s.a s.len s.cap], li c s]

theorem variables_iter {b0 : Nat} {F : List Nat} (hG : ∀ C ∈ vrG b0 c s, ∃ SC, C.P SC h ∧ ∀ b ∈ SC, b ∈ F) (hF : ∀ b ∈ F, b < h.size) (hl : c.length ≤ 1099511627776) :
    IterSpec Tryz.prog (.cons i64 .nil) (vrV b0) h (vrNx (vrL c)) (vrFin (vrL c)) F [] := by
  refine iter_of hG hF ?_
  intro At0 D B0 yl cc it K hfin hD
  refine callF_func (S_lits_variables_1 (a0 := yl) (c0 := ⟨b0, 0, none⟩) K ?_)
  unfold F_lits_variables_1
  obtain ⟨S, st, close⟩ := it.open cc
  rw [ld_sl (i := 0) (st.fblk 0 rfl) rfl]
  clear st close
  refine lfp_invh (I := fun μ σ h' => ∃ (i : Nat) (pre : List (Int × Unit)) (B : List Nat), σ = ((i : Int), ()) ∧ i ≤ c.length ∧ pre ++ vrL (c.drop i) = vrL c ∧ It h F At0 (vrG b0 c s) [] pre B h' ∧ μ = c.length - i)
    ⟨_, 0, [], B0, rfl, by omega, by simp, it, rfl⟩ ?_
  rintro μ σ h' X ⟨i, pre, B, rfl, hi, hp, it, rfl⟩ hX
  simp only
  obtain ⟨S, st, close⟩ := it.open cc
  have ls := rsl_len (st.fz 1 rfl)
  by_cases hlt : i < c.length
  · refine brT (by rw [ls]; exact decide_eq_true (by omega)) ?_
    rw [List.drop_eq_getElem_cons hlt] at hp
    refine rdE (τ := i64) (st.fz 1 rfl) hlt ?_
    refine call_of (lits_Right_c c[i]) ?_
    rintro _ h2 ⟨rfl, e⟩; subst e
    cases hr : rt c[i]
    · refine brF rfl ?_
      rw [inc_i (by omega)]
      simp only [vrL, List.filter_cons, hr, Bool.false_eq_true, if_false] at hp
      exact hX _ _ _ ⟨i + 1, pre, B, rfl, by omega, hp, it, rfl⟩ (by omega)
    · refine brT rfl ?_
      simp only [vrL, List.filter_cons, hr, if_true, List.map_cons] at hp
      refine call_of (lits_Var_c c[i]) ?_
      rintro _ h2 ⟨er, e⟩; subst e
      have er : _ = varL c[i] := er.trans (by unfold varL; rfl)
      subst er
      refine It.yield (τ := .cons i64 .nil) cc it (x := (varL c[i], ())) ⟨_, hp.symm⟩ (fun B' h3 it => ?_) (fun B' h3 hd => ?_)
      · refine brF rfl ?_
        rw [inc_i (by omega)]
        exact hX _ _ _ ⟨i + 1, _, B', rfl, by omega, by rw [List.append_assoc]; exact hp, it, rfl⟩ (by omega)
      · exact brT rfl (hD B' h3 hd)
  · refine brF (by rw [ls]; exact decide_eq_false (by omega)) ?_
    rw [List.drop_eq_nil_of_le (by omega)] at hp
    simp only [vrL, List.filter_nil, List.map_nil, List.append_nil] at hp
    exact hfin pre B h' hp it.1
theorem variables_range (st : Hs fr G As h) {b0 : Nat} (hm : ∀ C ∈ vrG b0 c s, C ∈ G) (hl : c.length ≤ 1099511627776) :
    ∀ S, FzOk G S h → FrOk fr S h → ∃ F, (∀ b ∈ F, b < h.size ∧ b ∉ S) ∧ ∀ h1, NewL h h1 → IterSpec Tryz.prog (.cons i64 .nil) (vrV b0) h1 (vrNx (vrL c)) (vrFin (vrL c)) F [] := by
  intro S hz _
  obtain ⟨F, hF, hall⟩ := hitG (vrG b0 c s) hm hz
  exact ⟨F, hF, fun h1 hn => variables_iter (hall h1 hn.1) (fun b hb => Nat.lt_of_lt_of_le (hF b hb).1 hn.1.1) hl⟩

/-- The variables of some literals: which they are. -/
theorem litVars_c (hA : At h (li c s)) (hl : c.length ≤ 1048576) :
    callT Tryz.prog fn_lits_Vars #[.slice s.a s.len s.cap] .sl (fun s' h' => ∃ vs, New h.size h' (oi vs s') ∧ vs.length ≤ c.length ∧ (∀ v, v ∈ vs ↔ ∃ x ∈ c, rt x = true ∧ varL x = v) ∧ Ext [] h h') h := by
  refine callT_gen fun K hK => S_lits_Vars (a0 := s) K ?_
  unfold F_lits_Vars
  show (nw _ _ _) h
  have st := Hs.start h [li c s] (by simp [hA])
  refine st.nw fun b0 h1 st => ?_
  refine st.nw fun b1 h2 st => ?_
  refine st.st1 1 0 rfl (by simp) fun h3 st => ?_
  refine S_lits_variables (a0 := s) _ ?_
  unfold F_lits_variables
  refine st.nw fun b2 h4 st => ?_
  simp only [List.nil_append, List.cons_append, List.set_cons_zero, List.set_cons_succ] at st
  have st := st.freeze 2 rfl
  simp only [List.nil_append, List.cons_append, List.eraseIdx_cons_zero, List.eraseIdx_cons_succ] at st
  have st := st.nil ty_int i64.enc none
  simp only [List.nil_append, List.cons_append] at st
  have hlf : (vrL c).length ≤ c.length := by unfold vrL; simp [List.length_filter_le]
  refine st.range (P := Tryz.prog) (τ := .cons i64 .nil) (vrNx (vrL c)) (vrFin (vrL c)) (variables_range st (by
      intro C hC
      simp only [vrG, List.mem_cons, List.not_mem_nil, or_false] at hC
      rcases hC with rfl | rfl
      · exact .tail _ (.head _)
      · exact .head _) (by omega)) (fun _ _ _ _ => rfl)
    (fun pre Bs => ∃ vs s', Bs = [cl b0 ty_sl_int [.slice s'.a s'.len s'.cap], cl b1 _ [.func (.func fn_lits_Vars_1) #[] #[.pointer (some ⟨b0, 0, none⟩)]], oi vs s'] ∧ vs.length ≤ pre.length ∧ (∀ v, v ∈ vs ↔ (v, ()) ∈ pre))
    (fun j Bs => False)
    ⟨[], ⟨none, 0, 0⟩, rfl, by simp, by simp⟩ ?_ ?_ ?_ ?_
  · rintro pre x Bs B hb ⟨r, hr2⟩ ⟨vs, s', rfl, hvl, hvm⟩ st next jump hnext hjump
    have hpl : pre.length < c.length := by
      have := congrArg List.length hr2
      simp at this; omega
    rw [st.ldv 1 0 rfl rfl]
    refine callF_func (S_lits_Vars_1 (a0 := x.1) (c0 := ⟨b0, 0, none⟩) _ ?_)
    unfold F_lits_Vars_1
    rw [st.lds 0 0 rfl rfl]
    refine call_of (bsearch_int (st.own 2 rfl).rsl (by omega) x.1) ?_
    rintro ⟨i, bb, u⟩ h5 ⟨⟨i', e1, hi'⟩, hin, _, e⟩
    subst e
    simp only at e1 hin
    subst e1
    refine jn_in fun J hJ => ?_
    cases bb with
    | true =>
      refine brF rfl (hJ _ _ (hnext _ _ ⟨vs, s', rfl, by simp; omega, fun v => ?_⟩ st))
      rw [hvm]
      have := (hvm x.1).1 (hin rfl)
      simp only [List.mem_append, List.mem_singleton]
      constructor
      · exact .inl
      · rintro (q | q)
        · exact q
        · have : v = x.1 := congrArg Prod.fst q
          rw [this]; exact ‹(x.1, ()) ∈ pre›
    | false =>
      refine brT rfl ?_
      rw [st.lds 0 0 rfl rfl]
      refine st.nw fun b5 h6 st => ?_
      simp only [List.nil_append, List.cons_append] at st
      refine Hs.insertI st 2 3 rfl rfl (by decide) rfl hi' (by omega) fun s6 h7 st => ?_
      refine st.st1 0 0 rfl (by simp) fun h8 st => ?_
      simp only [List.set_cons_zero, List.set_cons_succ] at st
      refine hJ _ _ (hnext _ _ ⟨_, s6, rfl, by simp; omega, fun v => ?_⟩ (st.drop 3 rfl))
      have e : v ∈ vs ↔ v ∈ vs.take i' ∨ v ∈ vs.drop i' := by rw [← List.mem_append, List.take_append_drop]
      simp only [List.mem_append, List.mem_cons, List.not_mem_nil, or_false]
      rw [← hvm v, e]
      have e2 : ((v, ()) : Int × Unit) = x ↔ v = x.1 := ⟨fun q => congrArg Prod.fst q, fun q => by rw [q]⟩
      rw [e2]
      constructor
      · rintro (q | q | q)
        · exact .inl (.inl q)
        · exact .inr q
        · exact .inl (.inr q)
      · rintro ((q | q) | q)
        · exact .inl q
        · exact .inr (.inr q)
        · exact .inr (.inl q)
  · rintro pre Bs h5 rfl ⟨vs, s', rfl, hvl, hvm⟩ st
    rw [st.lds 0 0 rfl rfl]
    refine fun h6 hM => ?_
    have st := st.marked hM
    refine hK _ _ ⟨vs, st.res (by simp) 2 rfl, by omega, fun v => ?_, st.frame (by simp)⟩
    rw [hvm]
    unfold vrL
    simp only [List.mem_map, List.mem_filter]
    constructor
    · rintro ⟨x, ⟨h1, h2⟩, e⟩
      exact ⟨x, h1, h2, congrArg Prod.fst e⟩
    · rintro ⟨x, h1, h2, e⟩
      exact ⟨x, ⟨h1, h2⟩, by rw [e]⟩
  · rintro Bs h5 hf; exact hf.elim
  · rintro i id K hi; simp at hi

end Go.Proofs.S
