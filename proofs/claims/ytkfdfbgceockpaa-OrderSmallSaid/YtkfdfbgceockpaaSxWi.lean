/-
  A part of what is owned by itself, for a call that turns it and brings more. Nothing here names a program.
-/
import Derived.Test.YtkfdfbgceockpaaSxSg
import Derived.Test.YtkfdfbgceockpaaSxSort
import Derived.Test.YtkfdfbgceockpaaOrdHs
import Derived.Test.YtkfdfbgceockpaaSxW3
import Derived.Test.YtkfdfbgceockpaaSxN
set_option linter.unusedVariables false
namespace Go.Sx
open Go

theorem brT {b : Bool} {A B : HP} {h : Heap} (e : b = true) (hA : A h) : brB b A B h := by subst e; exact hA
theorem brF {b : Bool} {A B : HP} {h : Heap} (e : b = false) (hB : B h) : brB b A B h := by subst e; exact hB

section
variable {fr : Fr} {G As : List Asn} {h h' : Heap} {A : Asn}

/-- One of what is owned by itself: what comes of it, and beside it, comes of it among the others. -/
theorem Hs.within (st : Hs fr G As h) (k : Nat) (hk : As[k]? = some A) :
    ∃ S1, Hs [(S1, h)] G [A] h ∧ ∀ (A' : Asn) Bs h', Hs [(S1, h)] G (A' :: Bs) h' → Hs fr G (As.set k A' ++ Bs) h' := by
  obtain ⟨S, hs, hz, hf⟩ := st
  obtain ⟨S1, S2, hm, hd, hA, hr, hw⟩ := hs.focus k hk
  refine ⟨S1, ⟨S1, ⟨S1, [], by simp, by simp, hA, rfl⟩, fun B hB => ?_, fun p hp => ?_⟩, ?_⟩
  · obtain ⟨SB, pB, dB⟩ := hz B hB
    exact ⟨SB, pB, fun b hb hin => dB b hb ((hm b).2 (.inl hin))⟩
  · simp at hp; subst hp; exact ⟨Ext.refl' _ _, fun b hb => .inl hb⟩
  · rintro A' Bs h' ⟨S', ⟨SA, SB, rfl, hdj, hA', hB'⟩, hz', hf'⟩
    obtain ⟨x, hin⟩ := hf' (S1, h) (by simp)
    have hlt2 : ∀ b ∈ S2, b < h.size := fun b hb => (hr.cel b hb).lt
    have hr' : Sep (As.eraseIdx k) S2 h' := hr.keep x.1 fun b hb => x.2 b (hlt2 b hb) (fun hi => hd b hi hb)
    have off2 : ∀ b ∈ SA ++ SB, b ∉ S2 := fun b hb hi => by
      rcases hin b hb with k | k
      · exact hd b k hi
      · have := hlt2 b hi; simp only at k; omega
    obtain ⟨U, hU, hsU⟩ := hw A' SA h' hr' hA' (fun b hb => off2 b (List.mem_append_left _ hb))
    have hdU : ∀ b ∈ U, b ∉ SB := fun b hb hi => by
      rcases (hU b).1 hb with k | k
      · exact hdj b k hi
      · exact off2 b (List.mem_append_right _ hi) k
    have hSS : ∀ b ∈ U ++ SB, b ∈ S ∨ h.size ≤ b := fun b hb => by
      have : b ∈ SA ++ SB ∨ b ∈ S2 := by
        rcases List.mem_append.1 hb with k | k
        · exact ((hU b).1 k).imp (fun k => List.mem_append_left _ k) id
        · exact .inl (List.mem_append_right _ k)
      rcases this with k | k
      · exact (hin b k).imp (fun k => (hm b).2 (.inl k)) id
      · exact .inl ((hm b).2 (.inr k))
    refine ⟨U ++ SB, hsU.append hB' hdU, fun B hB => ?_, fun p hp => ?_⟩
    · obtain ⟨SB', pB, dB⟩ := hz B hB
      refine ⟨SB', Asn.ext pB x (fun b hb hi => dB b hb ((hm b).2 (.inl hi))), fun b hb hi => ?_⟩
      rcases hSS b hi with k | k
      · exact dB b hb k
      · have := At.lt pB b hb; omega
    · obtain ⟨e, hb⟩ := hf p hp
      refine ⟨e.trans x fun b hb' => hb b ((hm b).2 (.inl hb')), fun b hb' => ?_⟩
      rcases hSS b hb' with k | k
      · exact hb b k
      · exact .inr (Nat.le_trans e.1 k)

/-- A call that turns nothing that is owned. -/
theorem Hs.beside (st : Hs fr G As h) : Hs [([], h)] G [] h ∧ ∀ Bs h', Hs [([], h)] G Bs h' → Hs fr G (As ++ Bs) h' := by
  obtain ⟨S, hs, hz, hf⟩ := st
  refine ⟨⟨[], rfl, fun B hB => let ⟨SB, pB, _⟩ := hz B hB; ⟨SB, pB, by simp⟩, fun p hp => ?_⟩, ?_⟩
  · simp at hp; subst hp; exact ⟨Ext.refl' _ _, fun b hb => by cases hb⟩
  · rintro Bs h' ⟨SB, hB', hz', hf'⟩
    obtain ⟨x, hin⟩ := hf' ([], h) (by simp)
    have hnew : ∀ b ∈ SB, h.size ≤ b := fun b hb => (hin b hb).elim (fun k => by cases k) id
    have hlt : ∀ b ∈ S, b < h.size := fun b hb => (hs.cel b hb).lt
    have hSS : ∀ b ∈ S ++ SB, b ∈ S ∨ h.size ≤ b := fun b hb => (List.mem_append.1 hb).imp id (hnew b)
    refine ⟨S ++ SB, (hs.keep x.1 fun b hb => x.2 b (hlt b hb) (by simp)).append hB' (fun b hb hi => by have := hlt b hb; have := hnew b hi; omega), (hz.mono hSS).ext x (by simp), (hf.mono hSS).ext x (by simp)⟩

/-- All that stands behind is frozen. -/
theorem Hs.freezeR : ∀ {Bs As : List Asn} {G : List Asn}, Hs fr G (As ++ Bs) h → Hs fr (G ++ Bs) As h
  | [], As, G, st => by simpa using st
  | B :: Bs, As, G, st => by
    have st1 := st.freeze As.length (A := B) (by simp)
    rw [show (As ++ B :: Bs).eraseIdx As.length = As ++ Bs by rw [List.eraseIdx_append_of_length_le (Nat.le_refl _)]; simp] at st1
    have := Hs.freezeR st1
    simpa using this

/-- What is frozen, by its place in the list. -/
theorem Hs.fzm (st : Hs fr G As h) (hA : A ∈ G) : At h A := by
  obtain ⟨k, hk⟩ := List.getElem?_of_mem hA
  exact st.fz k hk

/-- What is frozen, once more. -/
theorem Hs.gainM (st : Hs fr G As h) (hA : A ∈ G) : Hs fr (G ++ [A]) As h := by
  obtain ⟨k, hk⟩ := List.getElem?_of_mem hA
  exact st.gain k hk fun S h p => ⟨S, p, fun b hb => hb⟩
/-- A slice of one's own is frozen, as one that is read. -/
theorem Hs.froz {α : Type} {t : TypeId} {enc : α → Value} {xs : List α} {s : Sl} (st : Hs fr G As h) (k : Nat) (hk : As[k]? = some (osl t enc xs s)) : Hs fr (G ++ [rsl enc xs s]) (As.eraseIdx k) h := by
  have st := st.freeze k hk
  have st := st.gain (B := rsl enc xs s) G.length (A := osl t enc xs s) (by simp) fun S h p => ⟨S, osl_rsl p, fun b hb => hb⟩
  exact st.less fun A hA => by
    rcases List.mem_append.1 hA with h | h
    · exact List.mem_append_left _ (List.mem_append_left _ h)
    · exact List.mem_append_right _ h
/-- The same, in place of what was frozen last. -/
theorem Hs.swapF {α : Type} {t : TypeId} {enc : α → Value} {xs : List α} {s : Sl} {X : Asn} (st : Hs fr (G ++ [X]) As h) (k : Nat) (hk : As[k]? = some (osl t enc xs s)) : Hs fr (G ++ [rsl enc xs s]) (As.eraseIdx k) h :=
  (st.froz k hk).less fun A hA => by
    rcases List.mem_append.1 hA with h | h
    · exact List.mem_append_left _ (List.mem_append_left _ h)
    · exact List.mem_append_right _ h
theorem Hs.fzL {X : Asn} (st : Hs fr (G ++ [X]) As h) : At h X := st.fz G.length (by simp)

end
end Go.Sx

/-
  The reference of the order: contracts of its functions.
-/
set_option linter.unusedVariables false
set_option linter.unusedSimpArgs false
namespace Go.Sx
open Go
/-- The read of a row. -/
theorem Hs.ldr {fr : Fr} {G As : List Asn} {h : Heap} {τ : Ty} {b : Nat} {t : TypeId} {c : List Value} {K : τ.T → HP} (st : Hs fr G As h) (k : Nat) (hk : As[k]? = some (cl b t c)) (x : τ.T) (hc : c = τ.vals x) (hK : K x h) : ldA τ ⟨b, 0, none⟩ K h :=
  ldRow (by rw [← hc]; exact st.blk k hk) hK
theorem Hs.cka {fr : Fr} {G As : List Asn} {h : Heap} {b : Nat} {t : TypeId} {c : List Value} {K : HP} (st : Hs fr G As h) (k : Nat) (hk : As[k]? = some (cl b t c)) (hK : K h) : ckA ⟨b, 0, none⟩ c K h :=
  ⟨CellsAt_blk' _ (st.blk k hk) 0 (fun j hj => by simp), hK⟩
end Go.Sx
namespace Go.Proofs.OrdG
open Go Go.Sx Go.Proofs Go.Proofs.Ord

abbrev ri (xs : List Int) (s : Sl) : Asn := rsl (Value.int .i64) xs s
abbrev oi (xs : List Int) (s : Sl) : Asn := osl ty_int (Value.int .i64) xs s
abbrev τr : Ty := .cons .sl (.cons .sl (.cons (.int .i64) .nil))
abbrev τo : Ty := .agg τr

variable {fr : Fr} {G As : List Asn} {h : Heap} {xs I : List Int} {s s1 s2 : Sl}

theorem with_c (st : Hs fr G As h) (hA : At h (ri xs s)) {i : Nat} (hi : i < xs.length) (hl : xs.length ≤ 2000000) (v : Int) {K : Sl → HP}
    (hK : ∀ s' h', Hs fr G (As ++ [oi (xs.set i v) s']) h' → K s' h') : callT Try.prog fn_salvorref11_with #[.slice s.a s.len s.cap, .int .i64 i, .int .i64 v] .sl K h := by
  refine S_salvorref11_with (a0 := s) (a1 := (i : Int)) (a2 := v) K ?_
  unfold F_salvorref11_with
  obtain ⟨st, back⟩ := st.beside
  refine st.nw fun b0 h1 st => ?_
  have st := st.asSl 0 (Value.int .i64) ([] : List Int) rfl rfl
  refine st.apdS (τ := .int .i64) 0 rfl (hA.ext (st.frame (by simp))) leaf_int (by simp; omega) (by decide) fun s' h2 st => ?_
  refine st.wrE (τ := .int .i64) 0 rfl (by simpa using hi) v fun h3 st => ?_
  exact hK _ _ (back _ _ st)

theorem set_c (st : Hs fr G As h) (hI : At h (ri I s2)) (s1 : Sl) (step : Int) {v : Nat} (h1 : 1 ≤ v) (hv : v ≤ I.length) (hl : I.length ≤ 2000000) (x : Int) {K : τo.T → HP}
    (hK : ∀ s' h', Hs fr G (As ++ [oi (I.set (v - 1) x) s']) h' → K (s1, s', step, ()) h') :
    callT Try.prog fn_salvorref11_Set #[.agg #[.slice s1.a s1.len s1.cap, .slice s2.a s2.len s2.cap, .int .i64 step], .int .i64 v, .int .i64 x] τo K h := by
  refine S_salvorref11_Set (a0 := (s1, s2, step, ())) (a1 := (v : Int)) (a2 := x) K ?_
  unfold F_salvorref11_Set
  simp only [addr_add, Nat.zero_add]
  obtain ⟨st, back⟩ := st.beside
  refine st.nw fun b0 h1 st => ?_
  refine st.nw fun b1 h2 st => ?_
  rw [st.lds 0 1 rfl rfl, dec_i (by omega) (by omega)]
  refine with_c st (hI.ext (st.frame (by simp))) (i := v - 1) (by omega) hl x fun s' h3 st => ?_
  refine st.st1 0 1 rfl (by simp) fun h4 st => ?_
  refine st.ldr (τ := τr) 0 rfl (s1, s', step, ()) rfl ?_
  refine st.st1 1 0 rfl (by simp) fun h5 st => ?_
  refine st.st1 1 1 rfl (by simp) fun h6 st => ?_
  refine st.st1 1 2 rfl (by simp) fun h7 st => ?_
  refine st.ldr (τ := τr) 1 rfl (s1, s', step, ()) rfl ?_
  have st := (st.drop 1 rfl).drop 0 rfl
  exact hK _ _ (back _ _ st)

theorem decay_c (s1 s2 : Sl) {step : Int} (h1 : 1 ≤ step) (h2 : step ≤ maxA) (st : Hs fr G As h) {K : (τo.T × Int × Unit) → HP}
    (hK : ∀ h', Hs fr G As h' → K ((s1, s2, (if step + step / 16 + 1 ≤ maxA then step + step / 16 + 1 else step), ()), (if step + step / 16 + 1 ≤ maxA then 0 else 4), ()) h') :
    callT Try.prog fn_salvorref11_Decay #[.agg #[.slice s1.a s1.len s1.cap, .slice s2.a s2.len s2.cap, .int .i64 step]] (.tup (.cons τo (.cons (.int .i64) .nil))) K h := by
  refine S_salvorref11_Decay (a0 := (s1, s2, step, ())) K ?_
  unfold F_salvorref11_Decay
  simp only [addr_add, Nat.zero_add, nz_ok (show (16 : Int) ≠ 0 by decide)]
  obtain ⟨st, back⟩ := st.beside
  refine st.nw fun b0 h1 st => ?_
  refine st.nw fun b1 h2 st => ?_
  have e1 : Int.tdiv step 16 = step / 16 := Int.tdiv_eq_ediv_of_nonneg (by omega)
  have e2 : IntKind.wrap .i64 (step / 16) = step / 16 := wrap_i64 (by omega) (by simp only [maxA] at *; omega)
  have e3 : IntKind.wrap .i64 (step + step / 16) = step + step / 16 := wrap_i64 (by omega) (by simp only [maxA] at *; omega)
  have e4 : IntKind.wrap .i64 (step + step / 16 + 1) = step + step / 16 + 1 := wrap_i64 (by omega) (by simp only [maxA] at *; omega)
  rw [st.ldi 0 2 rfl rfl, st.ldi 0 2 rfl rfl]
  simp only [nz_ok (show (16 : Int) ≠ 0 by decide), e1, e2, e3, e4]
  have fin : ∀ {h'}, Hs [([], h)] G [cl b0 ty_salvorref11_Order [.slice s1.a s1.len s1.cap, .slice s2.a s2.len s2.cap, .int .i64 (if step + step / 16 + 1 ≤ maxA then step + step / 16 + 1 else step)], cl b1 ty_salvorref11_Order [.slice none 0 0, .slice none 0 0, .int .i64 0]] h' →
      ∀ e, e = (if step + step / 16 + 1 ≤ maxA then 0 else 4) →
      (ldA (.cons .sl (.cons .sl (.cons (.int .i64) .nil))) (⟨b0, 0, none⟩ : Addr) fun x4 =>
       st1 (⟨b1, 0, none⟩ : Addr) (.slice x4.1.a x4.1.len x4.1.cap) <|
       st1 (⟨b1, 1, none⟩ : Addr) (.slice x4.2.1.a x4.2.1.len x4.2.1.cap) <|
       st1 (⟨b1, 2, none⟩ : Addr) (.int .i64 x4.2.2.1) <|
       ldA (.cons .sl (.cons .sl (.cons (.int .i64) .nil))) (⟨b1, 0, none⟩ : Addr) fun x5 =>
       K ((⟨x5.1.a, x5.1.len, x5.1.cap⟩, ⟨x5.2.1.a, x5.2.1.len, x5.2.1.cap⟩, x5.2.2.1, ()), (e : Int), ())) h' := by
    rintro h' st e rfl
    refine st.ldr (τ := τr) 0 rfl (s1, s2, (if step + step / 16 + 1 ≤ maxA then step + step / 16 + 1 else step), ()) rfl ?_
    refine st.st1 1 0 rfl (by simp) fun h5 st => ?_
    refine st.st1 1 1 rfl (by simp) fun h6 st => ?_
    refine st.st1 1 2 rfl (by simp) fun h7 st => ?_
    refine st.ldr (τ := τr) 1 rfl (s1, s2, (if step + step / 16 + 1 ≤ maxA then step + step / 16 + 1 else step), ()) rfl ?_
    have st := (st.drop 1 rfl).drop 0 rfl
    exact hK _ (by simpa using back _ _ st)
  by_cases hc : step + step / 16 + 1 > 1125899906842624
  · simp only [hc, decide_true, brB_true]
    refine fin (h' := h2) ?_ 4 (by rw [if_neg (by simp only [maxA]; omega)])
    rw [if_neg (by simp only [maxA]; omega)]; exact st
  · simp only [hc, decide_false, brB_false]
    refine st.st1 0 2 rfl (by simp) fun h3 st => ?_
    refine fin (h' := h3) ?_ 0 (by rw [if_pos (by simp only [maxA]; omega)])
    rw [if_pos (by simp only [maxA]; omega)]; exact st

/-! ### First -/

def bst (A I : List Int) : Nat → Nat
  | 0 => 0
  | k + 1 => if g I k = 1 ∧ (bst A I k = 0 ∨ g A k > g A (bst A I k - 1)) then k + 1 else bst A I k

theorem bst_le (A I : List Int) : ∀ k, bst A I k ≤ k
  | 0 => Nat.le_refl _
  | k + 1 => by have := bst_le A I k; unfold bst; split <;> omega

theorem riA {xs : List Int} {s : Sl} {h : Heap} (hA : At h (ri xs s)) {i : Nat} (hi : i < xs.length) {K : Int → HP} (hK : K (g xs i) h) : sx s.a s.len (i : Int) 1 (fun p => ldT (.int .i64) p K) h :=
  rd_ok (τ := .int .i64) hA (by rw [List.getElem?_eq_getElem hi]; simp [g, List.getD_eq_getElem?_getD, List.getElem?_eq_getElem hi]) hK

theorem first_c (st : Hs fr G As h) (hA : At h (ri xs s1)) (hI : At h (ri I s2)) (hl : xs.length = I.length) (hn : I.length ≤ 2000000) (step : Int) {K : Int → HP}
    (hK : ∀ h', Hs fr G As h' → K (bst xs I I.length) h') :
    callT Try.prog fn_salvorref11_First #[.agg #[.slice s1.a s1.len s1.cap, .slice s2.a s2.len s2.cap, .int .i64 step]] (.int .i64) K h := by
  refine S_salvorref11_First (a0 := (s1, s2, step, ())) K ?_
  unfold F_salvorref11_First
  simp only [addr_add, Nat.zero_add]
  obtain ⟨st, back⟩ := st.beside
  refine st.nw fun b0 h1 st => ?_
  have l2 := rsl_len hI
  refine lfp_invh (I := fun m σ h' => ∃ k : Nat, σ = (((k + 1 : Nat) : Int), (bst xs I k : Int), ()) ∧ k ≤ I.length ∧ m = I.length - k ∧ Hs [([], h)] G [cl b0 ty_salvorref11_Order [.slice s1.a s1.len s1.cap, .slice s2.a s2.len s2.cap, .int .i64 step]] h')
    ⟨_, 0, rfl, by omega, rfl, st⟩ ?_
  rintro m σ h' X ⟨k, rfl, hk, rfl, st⟩ hX
  have hI' := hI.ext (st.frame (by simp))
  have hA' := hA.ext (st.frame (by simp))
  rw [st.lds 0 1 rfl rfl]
  simp only
  have hle := bst_le xs I k
  have einc : IntKind.wrap .i64 (((k + 1 : Nat) : Int) + 1) = ((k + 1 + 1 : Nat) : Int) := inc_i (by omega)
  by_cases hlt : k < I.length
  · rw [show decide ((((k + 1 : Nat)) : Int) ≤ (s2.len : Int)) = true by simp; omega, brB_true, st.lds 0 1 rfl rfl, dec_i (by omega) (by omega)]
    refine riA hI' (i := k + 1 - 1) (by omega) ?_
    rw [show k + 1 - 1 = k by omega]
    by_cases h1 : g I k = 1
    · rw [show (g I k == (1 : Int)) = true by simp [h1], brB_true]
      by_cases h0 : bst xs I k = 0
      · rw [show (((bst xs I k : Nat) : Int) == (0 : Int)) = true by simp [h0], brB_true]
        refine jn_in fun J hJ => ?_
        refine hJ _ _ ?_
        simp only [einc]
        exact hX _ _ _ ⟨k + 1, by simp only [bst]; rw [if_pos ⟨h1, .inl h0⟩], by omega, rfl, st⟩ (by omega)
      · rw [show (((bst xs I k : Nat) : Int) == (0 : Int)) = false by simp [h0], brB_false, st.lds 0 0 rfl rfl]
        refine riA hA' (i := k) (by omega) ?_
        rw [st.lds 0 0 rfl rfl, dec_i (by omega) (by omega)]
        refine riA hA' (i := bst xs I k - 1) (by omega) ?_
        refine jn_in fun J hJ => ?_
        by_cases hg : g xs k > g xs (bst xs I k - 1)
        · rw [show decide (g xs k > g xs (bst xs I k - 1)) = true by simpa using hg, brB_true]
          refine hJ _ _ ?_
          simp only [einc]
          exact hX _ _ _ ⟨k + 1, by simp only [bst]; rw [if_pos ⟨h1, .inr hg⟩], by omega, rfl, st⟩ (by omega)
        · rw [show decide (g xs k > g xs (bst xs I k - 1)) = false by simpa using hg, brB_false]
          refine hJ _ _ ?_
          simp only [einc]
          exact hX _ _ _ ⟨k + 1, by simp only [bst]; rw [if_neg (by rintro ⟨_, h | h⟩; exact h0 h; exact hg h)], by omega, rfl, st⟩ (by omega)
    · rw [show (g I k == (1 : Int)) = false by simp [h1], brB_false]
      refine jn_in fun J hJ => ?_
      refine hJ _ _ ?_
      simp only [einc]
      exact hX _ _ _ ⟨k + 1, by simp only [bst]; rw [if_neg (by rintro ⟨h, _⟩; exact h1 h)], by omega, rfl, st⟩ (by omega)
  · rw [show decide ((((k + 1 : Nat)) : Int) ≤ (s2.len : Int)) = false by simp; omega, brB_false]
    have : k = I.length := by omega
    subst this
    exact hK _ (by simpa using back _ _ (st.drop 0 rfl))

end Go.Proofs.OrdG
