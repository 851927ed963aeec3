/-
  FormulaSmall, walked (printed by gen/mkfsm.py).
-/
import Derived.Test.YtmlamkoilggonaaGreatFoTm
set_option linter.unusedVariables false
set_option linter.unusedSimpArgs false
namespace Go.Proofs.S
open Go Go.Sx Go.Proofs Go.Cl

variable {h : Heap} {c : List Int} {s : Sl} {fr : Fr} {G As : List Asn} {M : List (List Int)} {m : List Bool}

def sixteen : List (List Int) := [[], [1], [-1], [2], [-2], [1, 2], [1, -2], [-1, 2], [-1, -2], [1, -1], [2, 1, 2], [2, -2, 1], [0], [3], [1, 0], [-1, -1]]
def Short3 (M : List (List Int)) : Prop := M.length ≤ 1048576 ∧ ∀ c ∈ M, c.length ≤ 1048576
theorem sixteen_short : ∀ c ∈ sixteen, c.length ≤ 3 := by decide

theorem cl_li {b : Nat} {t : TypeId} {vs : List Value} {n : Nat} (hA : At h (cl b t vs)) (hv : vs = c.map i64.enc) (hn : n = c.length) : At h (li c ⟨some ⟨b, 0, none⟩, n, n⟩) := by
  subst hn hv
  obtain ⟨_, _, kb⟩ := hA
  exact ⟨[b], osl_rsl (t := t) (.inl ⟨b, [], rfl, rfl, by simpa using kb⟩)⟩
theorem cl_rows {b : Nat} {t : TypeId} {ps : List Sl} {vs : List Value} {n : Nat} (hA : At h (cl b t vs)) (hv : vs = ps.map Ty.sl.enc) (hn : n = ps.length) : At h (rsl Ty.sl.enc ps ⟨some ⟨b, 0, none⟩, n, n⟩) := by
  subst hn hv
  obtain ⟨_, _, kb⟩ := hA
  exact ⟨[b], osl_rsl (t := t) (.inl ⟨b, [], rfl, rfl, by simpa using kb⟩)⟩

theorem nwF {cs : Array Value} {t : TypeId} {K : Nat → HP} (st : Hs fr G [] h) (hK : ∀ b h', Hs fr (G ++ [cl b t cs.toList]) [] h' → K b h') : nw cs t K h :=
  st.nw fun b h' st => hK b h' (by simpa using st.freeze 0 rfl)
theorem mkM {n : Nat} (hn : n ≤ 1048576) {K : Sl → HP} (st : Hs fr G [] h) (hK : ∀ s h', Hs fr (G ++ [ob (List.replicate n false) s]) [] h' → K s h') : mks ty_bool 1 1 #[.bool false] (n : Int) (n : Int) K h :=
  Hs.mks1 (n := n) (τ := .bool) (z := false) st (by omega) (by decide) fun s h' st => hK s h' (by simpa using st.freeze 0 rfl)
theorem ofF {n : Int} {K : (Int × (Sl × Unit)) → HP} (st : Hs fr G [] h) (hA : At h (lli M s)) (hM : Short3 M) (hK : ∀ r h', Hs fr (G ++ [llo M r]) [] h' → K (n, r, ()) h') :
    callT Tryz.prog fn_salvorlaw05_Of #[.int .i64 n, .slice s.a s.len s.cap] (.agg (.cons (.int .i64) (.cons .sl .nil))) K h := by
  refine call_of (lawOf_c (n := n) hA hM.1 hM.2) ?_
  rintro _ h2 ⟨r, rfl, n2, x⟩
  exact hK r h2 (by simpa using (st.new x n2).freeze 0 rfl)
theorem tlF {n l : Int} {r : Sl} {K : Bool → HP} (st : Hs fr G [] h) (hA : At h (lli M r)) (hm : At h (lb m s)) (hM : Short3 M) (hml : m.length ≤ 1048576) (hK : ∀ h', Hs fr G [] h' → K true h') :
    callT Tryz.prog fn_salvorlaw05_tells #[.agg #[.int .i64 n, .slice r.a r.len r.cap], .slice s.a s.len s.cap, .int .i64 l] .bool K h := by
  refine call_of (tells_c (n := n) hA hm hM.1 hM.2 hml l) ?_
  rintro _ h2 ⟨rfl, x⟩
  exact hK h2 (st.ext x)
theorem tlG {n l : Int} {r : Sl} {K : Bool → HP} (st : Hs fr G [] h) (hA : llo M r ∈ G) (hm : ob m s ∈ G) (hM : Short3 M ∧ m.length ≤ 1048576) (hK : ∀ h', Hs fr G [] h' → K true h') :
    callT Tryz.prog fn_salvorlaw05_tells #[.agg #[.int .i64 n, .slice r.a r.len r.cap], .slice s.a s.len s.cap, .int .i64 l] .bool K h :=
  tlF st (llo_at (st.fzm hA)) (At.rsl (st.fzm hm)) hM.1 hM.2 hK
theorem of0 {n : Int} {K : (Int × (Sl × Unit)) → HP} (st : Hs fr G [] h) (hK : ∀ r h', Hs fr (G ++ [llo [] r]) [] h' → K (n, r, ()) h') :
    callT Tryz.prog fn_salvorlaw05_Of #[.int .i64 n, .slice none 0 0] (.agg (.cons (.int .i64) (.cons .sl .nil))) K h :=
  ofF (s := ⟨none, 0, 0⟩) st nil_lli ⟨by simp, fun c hc => by cases hc⟩ hK
theorem of2 {n x : Int} {bU bX bR : Nat} {K : (Int × (Sl × Unit)) → HP} (st : Hs fr G [] h) (h1 : cl bU ty_int [.int .i64 1] ∈ G) (h2 : cl bX ty_int [.int .i64 x] ∈ G) (h3 : cl bR ty_sl_int [.slice (some ⟨bU, 0, none⟩) 1 1, .slice (some ⟨bX, 0, none⟩) 1 1] ∈ G)
    (hK : ∀ r h', Hs fr (G ++ [llo [[1], [x]] r]) [] h' → K (n, r, ()) h') : callT Tryz.prog fn_salvorlaw05_Of #[.int .i64 n, .slice (some ⟨bR, 0, none⟩) 2 2] (.agg (.cons (.int .i64) (.cons .sl .nil))) K h :=
  ofF (s := ⟨some ⟨bR, 0, none⟩, 2, 2⟩) st (rows2_at (cl_rows (st.fzm h3) rfl rfl) (cl_li (st.fzm h1) rfl rfl) (cl_li (st.fzm h2) rfl rfl)) ⟨by simp, fun c hc => by
    simp only [List.mem_cons, List.not_mem_nil, or_false] at hc
    rcases hc with rfl | rfl <;> simp⟩ hK

theorem nzI {y : Int} {K : HP} (h0 : y ≠ 0) (hK : K h) : nz y K h := ⟨h0, hK⟩
theorem short2 {a b : List Int} (ha : a.length ≤ 3) (hb : b.length ≤ 3) : Short3 [a, b] := ⟨by simp, fun c hc => by
  simp only [List.mem_cons, List.not_mem_nil, or_false] at hc
  rcases hc with rfl | rfl <;> omega⟩
theorem short3 {a b : List Int} (ha : a.length ≤ 3) (hb : b.length ≤ 3) : Short3 [a, b, a] := ⟨by simp, fun c hc => by
  simp only [List.mem_cons, List.not_mem_nil, or_false] at hc
  rcases hc with rfl | rfl | rfl <;> omega⟩
theorem tmod_nat (k n : Nat) : Int.tmod (k : Int) (n : Int) = ((k % n : Nat) : Int) := rfl

set_option maxHeartbeats 4000000 in
theorem formulaSmall_F (K : Bool → HP) (hK : ∀ x h', (x = true ∧ Ext [] h h') → K x h') : F_salvorlaw05_FormulaSmall K h := by
  unfold F_salvorlaw05_FormulaSmall
  have st := Hs.start h [] (by simp)
  refine nwF st fun b0 h1 st => ?_
  refine nwF st fun b1 h2 st => ?_
  refine nwF st fun b2 h3 st => ?_
  refine nwF st fun b3 h4 st => ?_
  refine nwF st fun b4 h5 st => ?_
  refine nwF st fun b5 h6 st => ?_
  refine nwF st fun b6 h7 st => ?_
  refine nwF st fun b7 h8 st => ?_
  refine nwF st fun b8 h9 st => ?_
  refine nwF st fun b9 h10 st => ?_
  refine nwF st fun b10 h11 st => ?_
  refine nwF st fun b11 h12 st => ?_
  refine nwF st fun b12 h13 st => ?_
  refine nwF st fun b13 h14 st => ?_
  refine nwF st fun b14 h15 st => ?_
  refine nwF st fun b15 h16 st => ?_
  have hS : At h16 (lli sixteen ⟨some ⟨b15, 0, none⟩, 16, 16⟩) := by
    refine rsg_at (ps := [⟨none, 0, 0⟩, ⟨some ⟨b0, 0, none⟩, 1, 1⟩, ⟨some ⟨b1, 0, none⟩, 1, 1⟩, ⟨some ⟨b2, 0, none⟩, 1, 1⟩, ⟨some ⟨b3, 0, none⟩, 1, 1⟩, ⟨some ⟨b4, 0, none⟩, 2, 2⟩, ⟨some ⟨b5, 0, none⟩, 2, 2⟩, ⟨some ⟨b6, 0, none⟩, 2, 2⟩, ⟨some ⟨b7, 0, none⟩, 2, 2⟩, ⟨some ⟨b8, 0, none⟩, 2, 2⟩, ⟨some ⟨b9, 0, none⟩, 3, 3⟩, ⟨some ⟨b10, 0, none⟩, 3, 3⟩, ⟨some ⟨b11, 0, none⟩, 1, 1⟩, ⟨some ⟨b12, 0, none⟩, 1, 1⟩, ⟨some ⟨b13, 0, none⟩, 2, 2⟩, ⟨some ⟨b14, 0, none⟩, 2, 2⟩]) rfl ?_ ?_
    · obtain ⟨_, _, kb⟩ := st.fzm (A := cl b15 ty_sl_int [.slice none 0 0, .slice (some ⟨b0, 0, none⟩) 1 1, .slice (some ⟨b1, 0, none⟩) 1 1, .slice (some ⟨b2, 0, none⟩) 1 1, .slice (some ⟨b3, 0, none⟩) 1 1, .slice (some ⟨b4, 0, none⟩) 2 2, .slice (some ⟨b5, 0, none⟩) 2 2, .slice (some ⟨b6, 0, none⟩) 2 2, .slice (some ⟨b7, 0, none⟩) 2 2, .slice (some ⟨b8, 0, none⟩) 2 2, .slice (some ⟨b9, 0, none⟩) 3 3, .slice (some ⟨b10, 0, none⟩) 3 3, .slice (some ⟨b11, 0, none⟩) 1 1, .slice (some ⟨b12, 0, none⟩) 1 1, .slice (some ⟨b13, 0, none⟩) 2 2, .slice (some ⟨b14, 0, none⟩) 2 2]) (by simp)
      exact ⟨[b15], osl_rsl (t := ty_sl_int) (.inl ⟨b15, [], rfl, rfl, kb⟩)⟩
    · intro i h1 h2
      match i, h1 with
      | 0, _ => exact nil_li
      | 1, _ => exact cl_li (c := [1]) (st.fzm (A := cl b0 ty_int [.int .i64 1]) (by simp)) rfl rfl
      | 2, _ => exact cl_li (c := [-1]) (st.fzm (A := cl b1 ty_int [.int .i64 (-1)]) (by simp)) rfl rfl
      | 3, _ => exact cl_li (c := [2]) (st.fzm (A := cl b2 ty_int [.int .i64 2]) (by simp)) rfl rfl
      | 4, _ => exact cl_li (c := [-2]) (st.fzm (A := cl b3 ty_int [.int .i64 (-2)]) (by simp)) rfl rfl
      | 5, _ => exact cl_li (c := [1, 2]) (st.fzm (A := cl b4 ty_int [.int .i64 1, .int .i64 2]) (by simp)) rfl rfl
      | 6, _ => exact cl_li (c := [1, -2]) (st.fzm (A := cl b5 ty_int [.int .i64 1, .int .i64 (-2)]) (by simp)) rfl rfl
      | 7, _ => exact cl_li (c := [-1, 2]) (st.fzm (A := cl b6 ty_int [.int .i64 (-1), .int .i64 2]) (by simp)) rfl rfl
      | 8, _ => exact cl_li (c := [-1, -2]) (st.fzm (A := cl b7 ty_int [.int .i64 (-1), .int .i64 (-2)]) (by simp)) rfl rfl
      | 9, _ => exact cl_li (c := [1, -1]) (st.fzm (A := cl b8 ty_int [.int .i64 1, .int .i64 (-1)]) (by simp)) rfl rfl
      | 10, _ => exact cl_li (c := [2, 1, 2]) (st.fzm (A := cl b9 ty_int [.int .i64 2, .int .i64 1, .int .i64 2]) (by simp)) rfl rfl
      | 11, _ => exact cl_li (c := [2, -2, 1]) (st.fzm (A := cl b10 ty_int [.int .i64 2, .int .i64 (-2), .int .i64 1]) (by simp)) rfl rfl
      | 12, _ => exact cl_li (c := [0]) (st.fzm (A := cl b11 ty_int [.int .i64 0]) (by simp)) rfl rfl
      | 13, _ => exact cl_li (c := [3]) (st.fzm (A := cl b12 ty_int [.int .i64 3]) (by simp)) rfl rfl
      | 14, _ => exact cl_li (c := [1, 0]) (st.fzm (A := cl b13 ty_int [.int .i64 1, .int .i64 0]) (by simp)) rfl rfl
      | 15, _ => exact cl_li (c := [-1, -1]) (st.fzm (A := cl b14 ty_int [.int .i64 (-1), .int .i64 (-1)]) (by simp)) rfl rfl
      | n + 16, h => exact absurd (show n + 16 < 16 from h) (by omega)
  have x16 : Ext [] h h16 := st.frame (by simp)
  clear st
  generalize hSs : (⟨some ⟨b15, 0, none⟩, 16, 16⟩ : Sl) = SS at hS
  have e15 : (some ⟨b15, 0, none⟩ : Option Addr) = SS.a := by rw [← hSs]
  have eN : (16 : Nat) = SS.len := by rw [← hSs]
  have l16 : SS.len = 16 := eN.symm
  refine lfp_invh (I := fun μ σ h' => ∃ (i : Nat) (bb : Bool), σ = ((i : Int), bb, ()) ∧ i ≤ 16 ∧ Ext [] h h' ∧ At h' (lli sixteen SS) ∧ μ = 16 - i) ⟨_, 0, false, rfl, by omega, x16, hS, rfl⟩ ?_
  clear x16 hS
  rintro μ1 σ h17 X16 ⟨i, bb, rfl, hi, xx, hS, em1⟩ hX16
  simp only
  by_cases hi16 : i < 16
  · refine brT (decide_eq_true (by omega)) ?_
    rw [e15, eN]
    refine rdG hS (show i < sixteen.length from hi16) fun p hp => ?_
    have hsi := sixteen_short _ (List.getElem_mem (show i < sixteen.length from hi16))
    generalize sixteen[i]'hi16 = a at hp hsi
    refine lfp_invh (I := fun μ σ h' => ∃ (k : Nat) (bb : Bool), σ = ((k : Int), bb, ()) ∧ k ≤ 16 ∧ Ext [] h17 h' ∧ μ = 16 - k) ⟨_, 0, bb, rfl, by omega, Ext.refl' _ _, rfl⟩ ?_
    rintro μ2 σ h18 X20 ⟨k, bb, rfl, hk, xx2, em2⟩ hX20
    simp only
    by_cases hk16 : k < 16
    · refine brT (show decide ((k : Int) < (16 : Int)) = true from decide_eq_true (by omega)) ?_
      refine rdG (hS.ext xx2) (show k < sixteen.length from hk16) fun q hq => ?_
      have hsk := sixteen_short _ (List.getElem_mem (show k < sixteen.length from hk16))
      generalize sixteen[k]'hk16 = b at hq hsk
      have hp := hp.ext xx2
      refine lfp_invh (I := fun μ σ h' => ∃ (w : Nat) (bb : Bool), σ = ((w : Int), bb, ()) ∧ w ≤ 4 ∧ Ext [] h18 h' ∧ μ = 4 - w) ⟨_, 0, bb, rfl, by omega, Ext.refl' _ _, rfl⟩ ?_
      rintro μ3 σ h19 X24 ⟨w, bb, rfl, hw, xx3, em3⟩ hX24
      simp only
      have st := Hs.start h19 [li a p, li b q] (by
        intro A hA
        simp only [List.mem_cons, List.not_mem_nil, or_false] at hA
        rcases hA with rfl | rfl
        · exact hp.ext xx3
        · exact hq.ext xx3)
      by_cases hw4 : w < 4
      · refine brT (decide_eq_true (by omega)) ?_
        refine nwF st fun b26 h20 st => ?_
        refine ofF (s := ⟨some ⟨b26, 0, none⟩, 2, 2⟩) (M := [a, b]) st (rows2_at (p := p) (q := q) (cl_rows (ps := [p, q]) (st.fz 2 rfl) rfl rfl) (st.fz 0 rfl) (st.fz 1 rfl)) (short2 hsi hsk) fun r27 h21 st => nzI (by decide) ?_
        refine nwF st fun b28 h22 st => nzI (by decide) ?_
        refine tlF (M := [a, b]) (r := r27) (m := [(Int.tmod (w : Int) (2 : Int)) == (1 : Int), decide ((w : Int) > (1 : Int))]) (s := ⟨some ⟨b28, 0, none⟩, 2, 2⟩) st (llo_at (st.fz 3 rfl)) ?_ (short2 hsi hsk) (by simp) fun h23 st => ?_
        · obtain ⟨_, _, kb⟩ := st.fz 4 rfl
          exact ⟨[b28], osl_rsl (t := ty_bool) (.inl ⟨b28, [], rfl, rfl, kb⟩)⟩
        refine brF rfl ?_
        rw [inc_i (by omega)]
        exact hX24 _ _ _ ⟨w + 1, bb, rfl, by omega, xx3.nil_trans (st.frame (by simp)), rfl⟩ (by omega)
      · refine brF (decide_eq_false (by omega)) (nzI (by decide) (nzI (by decide) (nzI (by decide) ?_)))
        have go : ∀ h', Ext [] h19 h' → X20 ((IntKind.wrap .i64 ((k : Int) + (1 : Int))), bb, ()) h' := fun h' x => by
          rw [inc_i (by omega)]
          exact hX20 _ _ _ ⟨k + 1, bb, rfl, by omega, xx2.nil_trans (xx3.nil_trans x), rfl⟩ (by omega)
        have ek : Int.tmod (k : Int) (4 : Int) = ((k % 4 : Nat) : Int) := rfl
        rw [ek]
        have h4 : k % 4 ≤ 1048576 := by omega
        refine ⟨?_, ?_⟩
        · refine nwF st fun b30 h20 st => ⟨?_, ?_⟩
          · refine ofF (s := ⟨some ⟨b30, 0, none⟩, 3, 3⟩) (M := [a, b, a]) st (rows3_at (p := p) (q := q) (r := p) (cl_rows (ps := [p, q, p]) (st.fz 2 rfl) rfl rfl) (st.fz 0 rfl) (st.fz 1 rfl) (st.fz 0 rfl)) (short3 hsi hsk) fun r31 h21 st => ?_
            refine mkM (n := k % 4) h4 st fun s32 h22 st => ?_
            refine tlG (M := [a, b, a]) (r := r31) (s := s32) (m := List.replicate (k % 4) false) st (by simp) (by simp) ⟨short3 hsi hsk, by simp; omega⟩ fun h23 st => brF rfl (go _ (st.frame (by simp)))
          · refine mkM (n := k % 4) h4 st fun s32 h22 st => ?_
            refine ofF (s := ⟨some ⟨b30, 0, none⟩, 3, 3⟩) (M := [a, b, a]) st (rows3_at (p := p) (q := q) (r := p) (cl_rows (ps := [p, q, p]) (st.fz 2 rfl) rfl rfl) (st.fz 0 rfl) (st.fz 1 rfl) (st.fz 0 rfl)) (short3 hsi hsk) fun r31 h21 st => ?_
            refine tlG (M := [a, b, a]) (r := r31) (s := s32) (m := List.replicate (k % 4) false) st (by simp) (by simp) ⟨short3 hsi hsk, by simp; omega⟩ fun h23 st => brF rfl (go _ (st.frame (by simp)))
        · refine mkM (n := k % 4) h4 st fun s32 h22 st => ?_
          refine nwF st fun b30 h20 st => ?_
          refine ofF (s := ⟨some ⟨b30, 0, none⟩, 3, 3⟩) (M := [a, b, a]) st (rows3_at (p := p) (q := q) (r := p) (cl_rows (ps := [p, q, p]) (st.fz 3 rfl) rfl rfl) (st.fz 0 rfl) (st.fz 1 rfl) (st.fz 0 rfl)) (short3 hsi hsk) fun r31 h21 st => ?_
          refine tlG (M := [a, b, a]) (r := r31) (s := s32) (m := List.replicate (k % 4) false) st (by simp) (by simp) ⟨short3 hsi hsk, by simp; omega⟩ fun h23 st => brF rfl (go _ (st.frame (by simp)))
    · refine brF (show decide ((k : Int) < (16 : Int)) = false from decide_eq_false (by omega)) ?_
      rw [inc_i (by omega)]
      exact hX16 _ _ _ ⟨i + 1, bb, rfl, by omega, xx.nil_trans xx2, hS.ext xx2, rfl⟩ (by omega)
  · refine brF (decide_eq_false (by omega)) ?_
    clear hX16 hS e15 eN l16 hSs
    have st := Hs.start h17 [] (by simp)
    refine nwF st fun b41 h18 st => ?_
    have hN : At h18 (li [-9223372036854775808, -1, 0, 1, 17, 1048576, 1048577, 9223372036854775807] ⟨some ⟨b41, 0, none⟩, 8, 8⟩) := cl_li (st.fz 0 rfl) rfl rfl
    have x18 : Ext [] h h18 := xx.nil_trans (st.frame (by simp))
    clear st
    refine lfp_invh (I := fun μ σ h' => ∃ (i : Nat) (bb : Bool), σ = ((i : Int), bb, ()) ∧ i ≤ 8 ∧ Ext [] h18 h' ∧ μ = 8 - i) ⟨_, 0, bb, rfl, by omega, Ext.refl' _ _, rfl⟩ ?_
    rintro μ2 σ h19 X42 ⟨i, bb, rfl, hi, xx2, em2⟩ hX42
    simp only
    by_cases hi8 : i < 8
    · refine brT (decide_eq_true (by omega)) ?_
      refine rdE (τ := i64) (s := ⟨some ⟨b41, 0, none⟩, 8, 8⟩) (hN.ext xx2) (show i < 8 from hi8) ?_
      generalize ([-9223372036854775808, -1, 0, 1, 17, 1048576, 1048577, 9223372036854775807] : List Int)[i]'hi8 = x
      have go : ∀ h', Ext [] h19 h' → X42 ((IntKind.wrap .i64 ((i : Int) + (1 : Int))), bb, ()) h' := fun h' x => by
        rw [inc_i (by omega)]
        exact hX42 _ _ _ ⟨i + 1, bb, rfl, by omega, xx2.nil_trans x, rfl⟩ (by omega)
      have st := Hs.start h19 [] (by simp)
      refine nwF st fun b46 h20 st => ?_
      refine nwF st fun b47 h21 st => ?_
      refine ofF (s := ⟨some ⟨b47, 0, none⟩, 1, 1⟩) (M := [[1]]) st (rows1_at (p := ⟨some ⟨b46, 0, none⟩, 1, 1⟩) (cl_rows (ps := [⟨some ⟨b46, 0, none⟩, 1, 1⟩]) (st.fz 1 rfl) rfl rfl) (cl_li (st.fz 0 rfl) rfl rfl)) ⟨by simp, fun c hc => by simp at hc; subst hc; simp⟩ fun r48 h22 st => ?_
      refine tlF (M := [[1]]) (r := r48) (m := []) (s := ⟨none, 0, 0⟩) st (llo_at (st.fz 2 rfl)) ((osl_nil (t := 0) (enc := Ty.bool.enc) (a := none) 0 _).at.rsl) ⟨by simp, fun c hc => by simp at hc; subst hc; simp⟩ (by simp) fun h23 st => ?_
      refine brF rfl ?_
      have s11 : Short3 [[1], [x]] ∧ (List.replicate 2 false).length ≤ 1048576 := ⟨short2 (by simp) (by simp), by simp⟩
      have s00 : Short3 [] ∧ (List.replicate 3 false).length ≤ 1048576 := ⟨⟨by simp, fun c hc => by cases hc⟩, by simp⟩
      refine ⟨?_, ?_⟩
      · refine nwF st fun bU h1 st => ?_
        refine ⟨?_, ?_⟩
        · refine nwF st fun bX h2 st => ?_
          refine ⟨?_, ?_⟩
          · refine nwF st fun bR h3 st => ?_
            refine ⟨?_, ?_⟩
            · refine of2 (x := x) (bU := bU) (bX := bX) (bR := bR) st (by simp) (by simp) (by simp) fun r2 h4 st => ?_
              refine mkM (n := 2) (by decide) st fun s2 h5 st => ?_
              refine tlG (M := [[1], [x]]) (r := r2) (s := s2) (m := List.replicate 2 false) st (by simp) (by simp) s11 fun h6 st => ?_
              refine brF rfl ?_
              refine ⟨?_, ?_⟩
              · refine of0 st fun r0 h7 st => ?_
                refine mkM (n := 3) (by decide) st fun s3 h8 st => ?_
                refine tlG (M := []) (r := r0) (s := s3) (m := List.replicate 3 false) st (by simp) (by simp) s00 fun h9 st => ?_
                refine brF rfl ?_
                exact go _ (st.frame (by simp))
              · refine mkM (n := 3) (by decide) st fun s3 h10 st => ?_
                refine of0 st fun r0 h11 st => ?_
                refine tlG (M := []) (r := r0) (s := s3) (m := List.replicate 3 false) st (by simp) (by simp) s00 fun h12 st => ?_
                refine brF rfl ?_
                exact go _ (st.frame (by simp))
            · refine mkM (n := 2) (by decide) st fun s2 h13 st => ?_
              refine of2 (x := x) (bU := bU) (bX := bX) (bR := bR) st (by simp) (by simp) (by simp) fun r2 h14 st => ?_
              refine tlG (M := [[1], [x]]) (r := r2) (s := s2) (m := List.replicate 2 false) st (by simp) (by simp) s11 fun h15 st => ?_
              refine brF rfl ?_
              refine ⟨?_, ?_⟩
              · refine of0 st fun r0 h16 st => ?_
                refine mkM (n := 3) (by decide) st fun s3 h17 st => ?_
                refine tlG (M := []) (r := r0) (s := s3) (m := List.replicate 3 false) st (by simp) (by simp) s00 fun h18 st => ?_
                refine brF rfl ?_
                exact go _ (st.frame (by simp))
              · refine mkM (n := 3) (by decide) st fun s3 h19 st => ?_
                refine of0 st fun r0 h20 st => ?_
                refine tlG (M := []) (r := r0) (s := s3) (m := List.replicate 3 false) st (by simp) (by simp) s00 fun h21 st => ?_
                refine brF rfl ?_
                exact go _ (st.frame (by simp))
          · refine mkM (n := 2) (by decide) st fun s2 h22 st => ?_
            refine nwF st fun bR h23 st => ?_
            refine of2 (x := x) (bU := bU) (bX := bX) (bR := bR) st (by simp) (by simp) (by simp) fun r2 h24 st => ?_
            refine tlG (M := [[1], [x]]) (r := r2) (s := s2) (m := List.replicate 2 false) st (by simp) (by simp) s11 fun h25 st => ?_
            refine brF rfl ?_
            refine ⟨?_, ?_⟩
            · refine of0 st fun r0 h26 st => ?_
              refine mkM (n := 3) (by decide) st fun s3 h27 st => ?_
              refine tlG (M := []) (r := r0) (s := s3) (m := List.replicate 3 false) st (by simp) (by simp) s00 fun h28 st => ?_
              refine brF rfl ?_
              exact go _ (st.frame (by simp))
            · refine mkM (n := 3) (by decide) st fun s3 h29 st => ?_
              refine of0 st fun r0 h30 st => ?_
              refine tlG (M := []) (r := r0) (s := s3) (m := List.replicate 3 false) st (by simp) (by simp) s00 fun h31 st => ?_
              refine brF rfl ?_
              exact go _ (st.frame (by simp))
        · refine mkM (n := 2) (by decide) st fun s2 h32 st => ?_
          refine nwF st fun bX h33 st => ?_
          refine nwF st fun bR h34 st => ?_
          refine of2 (x := x) (bU := bU) (bX := bX) (bR := bR) st (by simp) (by simp) (by simp) fun r2 h35 st => ?_
          refine tlG (M := [[1], [x]]) (r := r2) (s := s2) (m := List.replicate 2 false) st (by simp) (by simp) s11 fun h36 st => ?_
          refine brF rfl ?_
          refine ⟨?_, ?_⟩
          · refine of0 st fun r0 h37 st => ?_
            refine mkM (n := 3) (by decide) st fun s3 h38 st => ?_
            refine tlG (M := []) (r := r0) (s := s3) (m := List.replicate 3 false) st (by simp) (by simp) s00 fun h39 st => ?_
            refine brF rfl ?_
            exact go _ (st.frame (by simp))
          · refine mkM (n := 3) (by decide) st fun s3 h40 st => ?_
            refine of0 st fun r0 h41 st => ?_
            refine tlG (M := []) (r := r0) (s := s3) (m := List.replicate 3 false) st (by simp) (by simp) s00 fun h42 st => ?_
            refine brF rfl ?_
            exact go _ (st.frame (by simp))
      · refine ⟨?_, ?_⟩
        · refine nwF st fun bX h43 st => ?_
          refine ⟨?_, ?_⟩
          · refine nwF st fun bU h44 st => ?_
            refine ⟨?_, ?_⟩
            · refine nwF st fun bR h45 st => ?_
              refine ⟨?_, ?_⟩
              · refine of2 (x := x) (bU := bU) (bX := bX) (bR := bR) st (by simp) (by simp) (by simp) fun r2 h46 st => ?_
                refine mkM (n := 2) (by decide) st fun s2 h47 st => ?_
                refine tlG (M := [[1], [x]]) (r := r2) (s := s2) (m := List.replicate 2 false) st (by simp) (by simp) s11 fun h48 st => ?_
                refine brF rfl ?_
                refine ⟨?_, ?_⟩
                · refine of0 st fun r0 h49 st => ?_
                  refine mkM (n := 3) (by decide) st fun s3 h50 st => ?_
                  refine tlG (M := []) (r := r0) (s := s3) (m := List.replicate 3 false) st (by simp) (by simp) s00 fun h51 st => ?_
                  refine brF rfl ?_
                  exact go _ (st.frame (by simp))
                · refine mkM (n := 3) (by decide) st fun s3 h52 st => ?_
                  refine of0 st fun r0 h53 st => ?_
                  refine tlG (M := []) (r := r0) (s := s3) (m := List.replicate 3 false) st (by simp) (by simp) s00 fun h54 st => ?_
                  refine brF rfl ?_
                  exact go _ (st.frame (by simp))
              · refine mkM (n := 2) (by decide) st fun s2 h55 st => ?_
                refine of2 (x := x) (bU := bU) (bX := bX) (bR := bR) st (by simp) (by simp) (by simp) fun r2 h56 st => ?_
                refine tlG (M := [[1], [x]]) (r := r2) (s := s2) (m := List.replicate 2 false) st (by simp) (by simp) s11 fun h57 st => ?_
                refine brF rfl ?_
                refine ⟨?_, ?_⟩
                · refine of0 st fun r0 h58 st => ?_
                  refine mkM (n := 3) (by decide) st fun s3 h59 st => ?_
                  refine tlG (M := []) (r := r0) (s := s3) (m := List.replicate 3 false) st (by simp) (by simp) s00 fun h60 st => ?_
                  refine brF rfl ?_
                  exact go _ (st.frame (by simp))
                · refine mkM (n := 3) (by decide) st fun s3 h61 st => ?_
                  refine of0 st fun r0 h62 st => ?_
                  refine tlG (M := []) (r := r0) (s := s3) (m := List.replicate 3 false) st (by simp) (by simp) s00 fun h63 st => ?_
                  refine brF rfl ?_
                  exact go _ (st.frame (by simp))
            · refine mkM (n := 2) (by decide) st fun s2 h64 st => ?_
              refine nwF st fun bR h65 st => ?_
              refine of2 (x := x) (bU := bU) (bX := bX) (bR := bR) st (by simp) (by simp) (by simp) fun r2 h66 st => ?_
              refine tlG (M := [[1], [x]]) (r := r2) (s := s2) (m := List.replicate 2 false) st (by simp) (by simp) s11 fun h67 st => ?_
              refine brF rfl ?_
              refine ⟨?_, ?_⟩
              · refine of0 st fun r0 h68 st => ?_
                refine mkM (n := 3) (by decide) st fun s3 h69 st => ?_
                refine tlG (M := []) (r := r0) (s := s3) (m := List.replicate 3 false) st (by simp) (by simp) s00 fun h70 st => ?_
                refine brF rfl ?_
                exact go _ (st.frame (by simp))
              · refine mkM (n := 3) (by decide) st fun s3 h71 st => ?_
                refine of0 st fun r0 h72 st => ?_
                refine tlG (M := []) (r := r0) (s := s3) (m := List.replicate 3 false) st (by simp) (by simp) s00 fun h73 st => ?_
                refine brF rfl ?_
                exact go _ (st.frame (by simp))
          · refine mkM (n := 2) (by decide) st fun s2 h74 st => ?_
            refine nwF st fun bU h75 st => ?_
            refine nwF st fun bR h76 st => ?_
            refine of2 (x := x) (bU := bU) (bX := bX) (bR := bR) st (by simp) (by simp) (by simp) fun r2 h77 st => ?_
            refine tlG (M := [[1], [x]]) (r := r2) (s := s2) (m := List.replicate 2 false) st (by simp) (by simp) s11 fun h78 st => ?_
            refine brF rfl ?_
            refine ⟨?_, ?_⟩
            · refine of0 st fun r0 h79 st => ?_
              refine mkM (n := 3) (by decide) st fun s3 h80 st => ?_
              refine tlG (M := []) (r := r0) (s := s3) (m := List.replicate 3 false) st (by simp) (by simp) s00 fun h81 st => ?_
              refine brF rfl ?_
              exact go _ (st.frame (by simp))
            · refine mkM (n := 3) (by decide) st fun s3 h82 st => ?_
              refine of0 st fun r0 h83 st => ?_
              refine tlG (M := []) (r := r0) (s := s3) (m := List.replicate 3 false) st (by simp) (by simp) s00 fun h84 st => ?_
              refine brF rfl ?_
              exact go _ (st.frame (by simp))
        · refine mkM (n := 2) (by decide) st fun s2 h85 st => ?_
          refine ⟨?_, ?_⟩
          · refine nwF st fun bU h86 st => ?_
            refine nwF st fun bX h87 st => ?_
            refine nwF st fun bR h88 st => ?_
            refine of2 (x := x) (bU := bU) (bX := bX) (bR := bR) st (by simp) (by simp) (by simp) fun r2 h89 st => ?_
            refine tlG (M := [[1], [x]]) (r := r2) (s := s2) (m := List.replicate 2 false) st (by simp) (by simp) s11 fun h90 st => ?_
            refine brF rfl ?_
            refine ⟨?_, ?_⟩
            · refine of0 st fun r0 h91 st => ?_
              refine mkM (n := 3) (by decide) st fun s3 h92 st => ?_
              refine tlG (M := []) (r := r0) (s := s3) (m := List.replicate 3 false) st (by simp) (by simp) s00 fun h93 st => ?_
              refine brF rfl ?_
              exact go _ (st.frame (by simp))
            · refine mkM (n := 3) (by decide) st fun s3 h94 st => ?_
              refine of0 st fun r0 h95 st => ?_
              refine tlG (M := []) (r := r0) (s := s3) (m := List.replicate 3 false) st (by simp) (by simp) s00 fun h96 st => ?_
              refine brF rfl ?_
              exact go _ (st.frame (by simp))
          · refine nwF st fun bX h97 st => ?_
            refine nwF st fun bU h98 st => ?_
            refine nwF st fun bR h99 st => ?_
            refine of2 (x := x) (bU := bU) (bX := bX) (bR := bR) st (by simp) (by simp) (by simp) fun r2 h100 st => ?_
            refine tlG (M := [[1], [x]]) (r := r2) (s := s2) (m := List.replicate 2 false) st (by simp) (by simp) s11 fun h101 st => ?_
            refine brF rfl ?_
            refine ⟨?_, ?_⟩
            · refine of0 st fun r0 h102 st => ?_
              refine mkM (n := 3) (by decide) st fun s3 h103 st => ?_
              refine tlG (M := []) (r := r0) (s := s3) (m := List.replicate 3 false) st (by simp) (by simp) s00 fun h104 st => ?_
              refine brF rfl ?_
              exact go _ (st.frame (by simp))
            · refine mkM (n := 3) (by decide) st fun s3 h105 st => ?_
              refine of0 st fun r0 h106 st => ?_
              refine tlG (M := []) (r := r0) (s := s3) (m := List.replicate 3 false) st (by simp) (by simp) s00 fun h107 st => ?_
              refine brF rfl ?_
              exact go _ (st.frame (by simp))
    · refine brF (decide_eq_false (by omega)) ?_
      have x19 : Ext [] h h19 := x18.nil_trans xx2
      clear hX42 hN xx2 x18
      obtain ⟨N, hNe⟩ : ∃ N : Nat, N = 262145 := ⟨_, rfl⟩
      rw [show (262145 : Int) = (N : Int) by omega]
      have st := Hs.start h19 [] (by simp)
      refine Hs.mks1 (n := N) (τ := .sl) (z := ⟨none, 0, 0⟩) st (by omega) (by decide) fun s157 h20 st => ?_
      have st := st.freeze 0 rfl
      simp only [List.nil_append, List.eraseIdx_cons_zero] at st
      have emp : ∀ {ps : List Sl} {h : Heap} {s : Sl} {n : Nat}, ps = List.replicate n ⟨none, 0, 0⟩ → At h (rsl Ty.sl.enc ps s) → At h (lli (List.replicate n []) s) := fun {ps h s n} e hA => by
        subst e
        refine rsg_at (by simp) hA fun i h1 h2 => ?_
        rw [List.getElem_replicate, List.getElem_replicate]
        exact nil_li
      refine st.nw fun b158 h21 st => ?_
      simp only [List.nil_append, addr_add, Nat.zero_add] at st ⊢
      refine st.st1 0 0 rfl (by simp) fun h22 st => ?_
      refine st.st1 0 1 rfl (by simp) fun h23 st => ?_
      simp only [List.set_cons_zero, List.set_cons_succ] at st
      refine ldF (s := s157) (st.blk 0 rfl) ?_
      refine call_of (check_c (n := 1) (emp rfl (st.fz 0 rfl).rsl)) ?_
      rintro _ h24 ⟨er, x24⟩
      rw [check_many (by omega)] at er
      subst er
      have st := st.ext x24
      rw [st.lds 0 1 rfl rfl]
      have ls : s157.len = N := by rw [osl_len (st.fz 0 rfl)]; simp
      refine ⟨by decide, by show (1 : Int) ≤ (s157.len : Int); omega, ?_⟩
      have hsub := rsl_sub (st.fz 0 rfl).rsl (l := 1) (m := s157.len) (by omega) (by simp; omega)
      rw [List.take_of_length_le (by simp; omega), List.drop_replicate] at hsub
      refine st.st1 0 1 rfl (by simp) fun h25 st => ?_
      simp only [List.set_cons_zero, List.set_cons_succ] at st
      have hsub := rsl_sub (st.fz 0 rfl).rsl (l := 1) (m := s157.len) (by omega) (by simp; omega)
      rw [List.take_of_length_le (by simp; omega), List.drop_replicate] at hsub
      refine ldF (s := slR s157 1 s157.len 1) (st.blk 0 rfl) ?_
      refine call_of (check_c (n := 1) (emp rfl hsub)) ?_
      rintro _ h26 ⟨er, x26⟩
      rw [check_full (by omega)] at er
      subst er
      have st := st.ext x26
      refine call_of (lawOf_c (n := 17) (s := ⟨none, 0, 0⟩) nil_lli (by simp) (fun c hc => by cases hc)) ?_
      rintro _ h27 ⟨r165, rfl, n27, x27⟩
      have st := (st.new x27 n27).freeze 1 rfl
      simp only [List.nil_append, List.cons_append, List.eraseIdx_cons_zero, List.eraseIdx_cons_succ] at st
      refine call_of (count_c (n := 17) (llo_at (st.fz 1 rfl))) ?_
      rintro _ h28 ⟨er, x28⟩
      rw [show countF 17 [] = (0, 5) from rfl] at er
      subst er
      have st := (st.ext x28).drop 0 rfl
      simp only [List.eraseIdx_cons_zero] at st
      refine nwF st fun b167 h29 st => ?_
      refine nwF st fun b168 h30 st => ?_
      refine nwF st fun b169 h31 st => ?_
      refine nwF st fun b170 h32 st => ?_
      refine ofF (s := ⟨some ⟨b170, 0, none⟩, 3, 3⟩) (M := [[1], [-2], [3, 4]]) st (rows3_at (p := ⟨some ⟨b167, 0, none⟩, 1, 1⟩) (q := ⟨some ⟨b168, 0, none⟩, 1, 1⟩) (r := ⟨some ⟨b169, 0, none⟩, 2, 2⟩) (cl_rows (ps := [⟨some ⟨b167, 0, none⟩, 1, 1⟩, ⟨some ⟨b168, 0, none⟩, 1, 1⟩, ⟨some ⟨b169, 0, none⟩, 2, 2⟩]) (st.fz 5 rfl) rfl rfl) (cl_li (st.fz 2 rfl) rfl rfl) (cl_li (st.fz 3 rfl) rfl rfl) (cl_li (st.fz 4 rfl) rfl rfl)) ⟨by simp, fun c hc => by
        simp only [List.mem_cons, List.not_mem_nil, or_false] at hc
        rcases hc with rfl | rfl | rfl <;> simp⟩ fun r171 h33 st => ?_
      refine call_of (count_c (n := 16) (llo_at (st.fz 6 rfl))) ?_
      rintro _ h34 ⟨er, x34⟩
      have ec : countF 16 [[1], [-2], [3, 4]] = (12288, 0) := by
        unfold countF
        rw [if_neg (by decide), if_neg (by decide), show (16 : Int).toNat = 16 from rfl, count16]; rfl
      rw [ec] at er
      subst er
      have st := st.ext x34
      obtain ⟨M, hMe⟩ : ∃ M : Nat, M = 1048576 := ⟨_, rfl⟩
      rw [show (1048576 : Int) = (M : Int) by omega, show (1048575 : Int) = ((M - 1 : Nat) : Int) by omega]
      refine nwF st fun b173 h35 st => ?_
      refine call_of (fmodel_c (n := (M : Int)) (c := [(M : Int)]) (s := ⟨some ⟨b173, 0, none⟩, 1, 1⟩) (cl_li (st.fz 7 rfl) rfl rfl) (by simp)) ?_
      rintro _ h36 ⟨s174, rfl, n36, x36⟩
      rw [model_big (by omega) (by omega)] at n36 ⊢
      have st := (st.new x36 n36).freeze 0 rfl
      simp only [List.nil_append, List.cons_append, List.eraseIdx_cons_zero] at st
      have lB := osl_len (st.fz 8 rfl)
      simp only [List.length_set, List.length_replicate] at lB
      refine jn_in fun J1 hJ1 => brT rfl (hJ1 _ _ ?_)
      refine jn_in fun J2 hJ2 => brT rfl (hJ2 _ _ ?_)
      refine jn_in fun J3 hJ3 => brT rfl (hJ3 _ _ ?_)
      refine jn_in fun J4 hJ4 => brT rfl (hJ4 _ _ ?_)
      refine jn_in fun J5 hJ5 => brT rfl (hJ5 _ _ ?_)
      refine jn_in fun J6 hJ6 => brT rfl (hJ6 _ _ ?_)
      refine jn_in fun J7 hJ7 => brT rfl (hJ7 _ _ ?_)
      refine jn_in fun J8 hJ8 => brT (show ((s174.len : Int) == (M : Int)) = true by simp; omega) (hJ8 _ _ ?_)
      refine jn_in fun J9 hJ9 => brT rfl ?_
      have hlt : M - 1 < ((List.replicate M false).set (M - 1) true).length := by simp; omega
      refine rdE (τ := .bool) (st.fz 8 rfl).rsl hlt ?_
      rw [List.getElem_set_self]
      refine hJ9 _ _ (jn_in fun J10 hJ10 => brT rfl ?_)
      refine call_of fawake_c ?_
      rintro _ h37 ⟨rfl, x37⟩
      exact hJ10 _ _ (hK _ _ ⟨rfl, x19.nil_trans ((st.ext x37).frame (by simp))⟩)

end Go.Proofs.S
