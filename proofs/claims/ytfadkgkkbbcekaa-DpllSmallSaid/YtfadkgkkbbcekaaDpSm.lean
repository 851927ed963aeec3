/-
  DpllSmall, walked.
-/
import Derived.Test.YtfadkgkkbbcekaaDpUi
import Derived.Test.YtfadkgkkbbcekaaDpWT
import Derived.Test.YtfadkgkkbbcekaaFoT
set_option linter.unusedVariables false
set_option linter.unusedSimpArgs false
namespace Go.Proofs.S
open Go Go.Sx Go.Proofs Go.Cl Go.Dp

variable {h : Heap} {c : List Int} {s p : Sl} {fr : Fr} {G As : List Asn} {M : List (List Int)} {m k : List Bool}

theorem contains_bools (hA : At h (lb k s)) (hl : k.length ≤ 1099511627776) (v : Bool) : callT Try.prog fn_slices_Contains_bool_bool #[.slice s.a s.len s.cap, .bool v] .bool (fun r h' => r = k.any (fun x => v == x) ∧ h' = h) h := by
  refine callT_gen fun K hK => S_slices_Contains_bool_bool (a0 := s) (a1 := v) K ?_
  unfold F_slices_Contains_bool_bool
  refine call_of (R := fun r h' => r = fidx (fun x => v == x) k ∧ h' = h) (callT_gen fun K hK => S_slices_Index_bool_bool (a0 := s) (a1 := v) K (w_index (τ := .bool) hA hl (hK _ _ ⟨rfl, rfl⟩))) ?_
  rintro r h2 ⟨er, rfl⟩
  have er : r = fidx (fun x => v == x) k := er
  subst er
  exact hK _ _ ⟨fidx_ge _ _, rfl⟩

theorem mods40 : ∃ A B, modelsF 40 [[-40, 1]] = A ++ B ∧ A.length = 8 ∧ A[0]? = some (List.replicate 40 false) := by
  unfold modelsF
  rw [show (40 : Nat) = 36 + 4 from rfl, Cr.allB_add]
  have h0 := Cr.allB_zero 36
  cases e : Cr.allB 36 with
  | nil => rw [e] at h0; cases h0
  | cons a r =>
    rw [e] at h0
    have h0 : a = List.replicate 36 false := by simpa using h0
    subst h0
    rw [List.flatMap_cons, List.filter_append]
    refine ⟨_, _, rfl, ?_, ?_⟩ <;> decide +kernel

def fourteen : List (List Int) := [[], [1], [-1], [2], [-2], [1, 2], [1, -2], [-1, 2], [-1, -2], [1, -1], [2, 2], [0], [3], [-2, -2, 1]]
def eightL : List (List Int) := [[], [1], [-1], [2, 2], [1, -2], [1, -1], [3], [0]]
def Short3 (M : List (List Int)) : Prop := M.length ≤ 1048576 ∧ ∀ c ∈ M, c.length ≤ 1048576
theorem fourteen_short : ∀ c ∈ fourteen, c.length ≤ 3 := by decide
theorem eightL_short : ∀ c ∈ eightL, c.length ≤ 3 := by decide

theorem cl_li {b : Nat} {t : TypeId} {vs : List Value} {n : Nat} (hA : At h (cl b t vs)) (hv : vs = c.map i64.enc) (hn : n = c.length) : At h (li c ⟨some ⟨b, 0, none⟩, n, n⟩) := by
  subst hn hv
  obtain ⟨_, _, kb⟩ := hA
  exact ⟨[b], osl_rsl (t := t) (.inl ⟨b, [], rfl, rfl, by simpa using kb⟩)⟩
theorem cl_rows {b : Nat} {t : TypeId} {ps : List Sl} {vs : List Value} {n : Nat} (hA : At h (cl b t vs)) (hv : vs = ps.map Ty.sl.enc) (hn : n = ps.length) : At h (rsl Ty.sl.enc ps ⟨some ⟨b, 0, none⟩, n, n⟩) := by
  subst hn hv
  obtain ⟨_, _, kb⟩ := hA
  exact ⟨[b], osl_rsl (t := t) (.inl ⟨b, [], rfl, rfl, by simpa using kb⟩)⟩

theorem nwF {cs : Array Value} {t : TypeId} {K : Nat → HP} (st : Hs fr G [] h) (hK : ∀ b h', Hs fr (G ++ [cl b t cs.toList]) [] h' → K b h') : nw cs t K h :=
  st.nw fun b h' st => hK b h' (by simpa using st.freeze 0 rfl)
theorem ofF {n : Int} {K : (Int × (Sl × Unit)) → HP} (st : Hs fr G [] h) (hA : At h (lli M s)) (hM : Short3 M) (hK : ∀ r h', Hs fr (G ++ [llo M r]) [] h' → K (n, r, ()) h') :
    callT Try.prog fn_salvorlaw05_Of #[.int .i64 n, .slice s.a s.len s.cap] (.agg (.cons (.int .i64) (.cons .sl .nil))) K h := by
  refine call_of (lawOf_c (n := n) hA hM.1 hM.2) ?_
  rintro _ h2 ⟨r, rfl, n2, x⟩
  exact hK r h2 (by simpa using (st.new x n2).freeze 0 rfl)
theorem udF {n fu : Int} {r : Sl} {K : Bool → HP} (st : Hs fr G [] h) (hA : At h (lli M r)) (hL : At h (li c p)) (hM : Short3 M) (hc : c.length ≤ 1000000) (hn : n ≤ 60) (hK : ∀ h', Hs fr G [] h' → K true h') :
    callT Try.prog fn_salvorlaw19_under #[.agg #[.int .i64 n, .slice r.a r.len r.cap], .slice p.a p.len p.cap, .int .i64 fu] .bool K h := by
  refine call_of (lawUnder_c (n := n) (fu := fu) hA hL hM.1 hM.2 hc fun _ => hn) ?_
  rintro _ h2 ⟨rfl, x⟩
  exact hK h2 (st.ext x)
theorem imF {n fu : Int} {r : Sl} {K : Bool → HP} (st : Hs fr G [] h) (hA : At h (lli M r)) (hL : At h (li c p)) (hM : Short3 M) (hc : c.length ≤ 1000000) (hn : n ≤ 60) (hK : ∀ h', Hs fr G [] h' → K true h') :
    callT Try.prog fn_salvorlaw19_implied #[.agg #[.int .i64 n, .slice r.a r.len r.cap], .slice p.a p.len p.cap, .int .i64 fu] .bool K h := by
  refine call_of (lawImplied_c (n := n) (fu := fu) hA hL hM.1 hM.2 hc fun _ => hn) ?_
  rintro _ h2 ⟨rfl, x⟩
  exact hK h2 (st.ext x)
theorem nzI {y : Int} {K : HP} (h0 : y ≠ 0) (hK : K h) : nz y K h := ⟨h0, hK⟩
theorem short2 {a b : List Int} (ha : a.length ≤ 3) (hb : b.length ≤ 3) : Short3 [a, b] := ⟨by simp, fun c hc => by
  simp only [List.mem_cons, List.not_mem_nil, or_false] at hc
  rcases hc with rfl | rfl <;> omega⟩
theorem lli_drop {n : Nat} (hA : At h (lli M s)) (hn : n ≤ M.length) : At h (lli (M.drop n) (slR ⟨s.a, s.len, s.cap⟩ n s.len 1)) := by
  obtain ⟨ps, hl, ho, hx⟩ := rsg_open hA
  have ls := rsl_len ho
  have h1 := rsl_sub ho (l := n) (m := s.len) (by omega) (by omega)
  rw [List.take_of_length_le (by omega)] at h1
  refine rsg_at (ps := ps.drop n) (by simp; omega) h1 fun i h1 h2 => ?_
  rw [List.getElem_drop, List.getElem_drop]
  exact hx _ _ _

abbrev litW (w v : Int) : Int := IntKind.wrap .i64 ((IntKind.wrap .i64 (v + (1 : Int))) * (IntKind.wrap .i64 ((1 : Int) - (IntKind.wrap .i64 ((2 : Int) * (bAnd .i64 (Int.fdiv w (2 ^ (min v.toNat 64))) (1 : Int)))))))
theorem litW_good : ∀ w : Fin 16, ∀ v : Fin 4, rt (litW ((w.val : Nat) : Int) ((v.val : Nat) : Int)) = true ∧ beyP 4 (litW ((w.val : Nat) : Int) ((v.val : Nat) : Int)) = false := by decide +kernel
def Row4 (c : List Int) : Prop := c.length ≤ 4 ∧ ∀ x ∈ c, rt x = true ∧ beyP 4 x = false
theorem good4 (hM : ∀ c ∈ M, Row4 c) (hl : M.length ≤ 16) : GoodF 4 M := ⟨rfl, by omega, fun c hc => by
  obtain ⟨h1, h2⟩ := hM c hc
  refine ⟨?_, fun x hx => (h2 x hx).2⟩
  unfold rightC
  rw [decide_eq_true (by omega), Bool.true_and, List.all_eq_true]
  exact fun x hx => (h2 x hx).1⟩

set_option maxRecDepth 100000 in
set_option maxHeartbeats 4000000 in
theorem dpllSmall_F (K : Bool → HP) (hK : ∀ x h', (x = true ∧ Ext [] h h') → K x h') : F_salvorlaw19_DpllSmall K h := by
  unfold F_salvorlaw19_DpllSmall
  show (nw _ _ _) h
  have st := Hs.start h [] (by simp)
  refine nwF st fun b0 h1 st => ?_
  refine nwF st fun b1 h2 st => ?_
  refine nwF st fun b2 h3 st => ?_
  refine nwF st fun b3 h4 st => ?_
  refine nwF st fun b4 h5 st => ?_
  refine nwF st fun b5 h6 st => ?_
  refine nwF st fun b6 h7 st => ?_
  refine nwF st fun b7 h8 st => ?_
  refine nwF st fun b8 h9 st => ?_
  refine nwF st fun b9 h10 st => ?_
  refine nwF st fun b10 h11 st => ?_
  refine nwF st fun b11 h12 st => ?_
  refine nwF st fun b12 h13 st => ?_
  refine nwF st fun b13 h14 st => ?_
  have hS : At h14 (lli fourteen ⟨some ⟨b13, 0, none⟩, 14, 14⟩) := by
    refine rsg_at (ps := [⟨none, 0, 0⟩, ⟨some ⟨b0, 0, none⟩, 1, 1⟩, ⟨some ⟨b1, 0, none⟩, 1, 1⟩, ⟨some ⟨b2, 0, none⟩, 1, 1⟩, ⟨some ⟨b3, 0, none⟩, 1, 1⟩, ⟨some ⟨b4, 0, none⟩, 2, 2⟩, ⟨some ⟨b5, 0, none⟩, 2, 2⟩, ⟨some ⟨b6, 0, none⟩, 2, 2⟩, ⟨some ⟨b7, 0, none⟩, 2, 2⟩, ⟨some ⟨b8, 0, none⟩, 2, 2⟩, ⟨some ⟨b9, 0, none⟩, 2, 2⟩, ⟨some ⟨b10, 0, none⟩, 1, 1⟩, ⟨some ⟨b11, 0, none⟩, 1, 1⟩, ⟨some ⟨b12, 0, none⟩, 3, 3⟩]) rfl ?_ ?_
    · obtain ⟨_, _, kb⟩ := st.fzm (A := cl b13 ty_sl_int [.slice none 0 0, .slice (some ⟨b0, 0, none⟩) 1 1, .slice (some ⟨b1, 0, none⟩) 1 1, .slice (some ⟨b2, 0, none⟩) 1 1, .slice (some ⟨b3, 0, none⟩) 1 1, .slice (some ⟨b4, 0, none⟩) 2 2, .slice (some ⟨b5, 0, none⟩) 2 2, .slice (some ⟨b6, 0, none⟩) 2 2, .slice (some ⟨b7, 0, none⟩) 2 2, .slice (some ⟨b8, 0, none⟩) 2 2, .slice (some ⟨b9, 0, none⟩) 2 2, .slice (some ⟨b10, 0, none⟩) 1 1, .slice (some ⟨b11, 0, none⟩) 1 1, .slice (some ⟨b12, 0, none⟩) 3 3]) (by simp)
      exact ⟨[b13], osl_rsl (t := ty_sl_int) (.inl ⟨b13, [], rfl, rfl, kb⟩)⟩
    · intro i h1 h2
      match i, h1 with
      | 0, _ => exact nil_li
      | 1, _ => exact cl_li (c := [1]) (st.fzm (A := cl b0 ty_int [.int .i64 1]) (by simp)) rfl rfl
      | 2, _ => exact cl_li (c := [-1]) (st.fzm (A := cl b1 ty_int [.int .i64 (-1)]) (by simp)) rfl rfl
      | 3, _ => exact cl_li (c := [2]) (st.fzm (A := cl b2 ty_int [.int .i64 2]) (by simp)) rfl rfl
      | 4, _ => exact cl_li (c := [-2]) (st.fzm (A := cl b3 ty_int [.int .i64 (-2)]) (by simp)) rfl rfl
      | 5, _ => exact cl_li (c := [1, 2]) (st.fzm (A := cl b4 ty_int [.int .i64 1, .int .i64 2]) (by simp)) rfl rfl
      | 6, _ => exact cl_li (c := [1, -2]) (st.fzm (A := cl b5 ty_int [.int .i64 1, .int .i64 (-2)]) (by simp)) rfl rfl
      | 7, _ => exact cl_li (c := [-1, 2]) (st.fzm (A := cl b6 ty_int [.int .i64 (-1), .int .i64 2]) (by simp)) rfl rfl
      | 8, _ => exact cl_li (c := [-1, -2]) (st.fzm (A := cl b7 ty_int [.int .i64 (-1), .int .i64 (-2)]) (by simp)) rfl rfl
      | 9, _ => exact cl_li (c := [1, -1]) (st.fzm (A := cl b8 ty_int [.int .i64 1, .int .i64 (-1)]) (by simp)) rfl rfl
      | 10, _ => exact cl_li (c := [2, 2]) (st.fzm (A := cl b9 ty_int [.int .i64 2, .int .i64 2]) (by simp)) rfl rfl
      | 11, _ => exact cl_li (c := [0]) (st.fzm (A := cl b10 ty_int [.int .i64 0]) (by simp)) rfl rfl
      | 12, _ => exact cl_li (c := [3]) (st.fzm (A := cl b11 ty_int [.int .i64 3]) (by simp)) rfl rfl
      | 13, _ => exact cl_li (c := [-2, -2, 1]) (st.fzm (A := cl b12 ty_int [.int .i64 (-2), .int .i64 (-2), .int .i64 1]) (by simp)) rfl rfl
      | n + 14, h => exact absurd (show n + 14 < 14 from h) (by omega)
  have x14 : Ext [] h h14 := st.frame (by simp)
  clear st
  generalize hSs : (⟨some ⟨b13, 0, none⟩, 14, 14⟩ : Sl) = SS at hS
  have e13 : (some ⟨b13, 0, none⟩ : Option Addr) = SS.a := by rw [← hSs]
  have eN : (14 : Nat) = SS.len := by rw [← hSs]
  refine lfp_invh (I := fun μ σ h' => ∃ (i : Nat) (bb : Bool), σ = ((i : Int), bb, ()) ∧ i ≤ 14 ∧ Ext [] h h' ∧ At h' (lli fourteen SS) ∧ μ = 14 - i) ⟨_, 0, false, rfl, by omega, x14, hS, rfl⟩ ?_
  clear x14 hS
  rintro μ1 σ h17 X14 ⟨i, bb, rfl, hi, xx, hS, em1⟩ hX14
  simp only
  by_cases hi14 : i < 14
  · refine brT (decide_eq_true (by omega)) ?_
    rw [e13, eN]
    refine rdG hS (show i < fourteen.length from hi14) fun p hp => ?_
    have hsi := fourteen_short _ (List.getElem_mem (show i < fourteen.length from hi14))
    generalize fourteen[i]'hi14 = a at hp hsi
    refine lfp_invh (I := fun μ σ h' => ∃ (k : Nat) (bb : Bool), σ = ((k : Int), bb, ()) ∧ k ≤ 14 ∧ Ext [] h17 h' ∧ μ = 14 - k) ⟨_, 0, bb, rfl, by omega, Ext.refl' _ _, rfl⟩ ?_
    rintro μ2 σ h18 X18 ⟨k, bb, rfl, hk, xx2, em2⟩ hX18
    simp only
    by_cases hk14 : k < 14
    · refine brT (show decide ((k : Int) < (14 : Int)) = true from decide_eq_true (by omega)) ?_
      refine rdG (hS.ext xx2) (show k < fourteen.length from hk14) fun q hq => ?_
      have hsk := fourteen_short _ (List.getElem_mem (show k < fourteen.length from hk14))
      generalize fourteen[k]'hk14 = b at hq hsk
      have hp := hp.ext xx2
      have st := Hs.start h18 [li a p, li b q] (by simp [hp, hq])
      refine nwF st fun b22 h20 st => ?_
      refine ofF (s := ⟨some ⟨b22, 0, none⟩, 2, 2⟩) (M := [a, b]) st (rows2_at (p := p) (q := q) (cl_rows (ps := [p, q]) (st.fz 2 rfl) rfl rfl) (st.fz 0 rfl) (st.fz 1 rfl)) (short2 hsi hsk) fun r23 h21 st => ?_
      refine Hs.frml st fun b24 h22 st => ?_
      simp only [List.cons_append, List.nil_append] at st
      refine nwF st fun b25 h1 st => ?_
      refine nwF st fun b26 h2 st => ?_
      refine nwF st fun b27 h3 st => ?_
      refine nwF st fun b28 h4 st => ?_
      refine nwF st fun b29 h5 st => ?_
      refine nwF st fun b30 h6 st => ?_
      refine nwF st fun b31 h7 st => ?_
      refine nwF st fun b32 h8 st => ?_
      simp only [List.cons_append, List.nil_append] at st
      have hE : At h8 (lli eightL ⟨some ⟨b32, 0, none⟩, 8, 8⟩) := by
        refine rsg_at (ps := [⟨none, 0, 0⟩, ⟨some ⟨b25, 0, none⟩, 1, 1⟩, ⟨some ⟨b26, 0, none⟩, 1, 1⟩, ⟨some ⟨b27, 0, none⟩, 2, 2⟩, ⟨some ⟨b28, 0, none⟩, 2, 2⟩, ⟨some ⟨b29, 0, none⟩, 2, 2⟩, ⟨some ⟨b30, 0, none⟩, 1, 1⟩, ⟨some ⟨b31, 0, none⟩, 1, 1⟩]) rfl (cl_rows (ps := [⟨none, 0, 0⟩, ⟨some ⟨b25, 0, none⟩, 1, 1⟩, ⟨some ⟨b26, 0, none⟩, 1, 1⟩, ⟨some ⟨b27, 0, none⟩, 2, 2⟩, ⟨some ⟨b28, 0, none⟩, 2, 2⟩, ⟨some ⟨b29, 0, none⟩, 2, 2⟩, ⟨some ⟨b30, 0, none⟩, 1, 1⟩, ⟨some ⟨b31, 0, none⟩, 1, 1⟩]) (st.fz 12 rfl) rfl rfl) ?_
        intro i h1 h2
        match i, h1 with
        | 0, _ => exact nil_li
        | 1, _ => exact cl_li (c := [1]) (st.fz 5 rfl) rfl rfl
        | 2, _ => exact cl_li (c := [-1]) (st.fz 6 rfl) rfl rfl
        | 3, _ => exact cl_li (c := [2, 2]) (st.fz 7 rfl) rfl rfl
        | 4, _ => exact cl_li (c := [1, -2]) (st.fz 8 rfl) rfl rfl
        | 5, _ => exact cl_li (c := [1, -1]) (st.fz 9 rfl) rfl rfl
        | 6, _ => exact cl_li (c := [3]) (st.fz 10 rfl) rfl rfl
        | 7, _ => exact cl_li (c := [0]) (st.fz 11 rfl) rfl rfl
        | n + 8, h => exact absurd (show n + 8 < 8 from h) (by omega)
      have hab := short2 hsi hsk
      have hF := st.fz 4 rfl
      have hr := llo_at (st.fz 3 rfl)
      have x22 : Ext [] h18 h8 := st.frame (by simp)
      have hp := hp.ext x22
      clear st
      refine lfp_invh (I := fun μ σ h' => ∃ (w : Nat) (bb : Bool), σ = ((w : Int), bb, ()) ∧ w ≤ 8 ∧ Ext [] h8 h' ∧ μ = 8 - w) ⟨_, 0, bb, rfl, by omega, Ext.refl' _ _, rfl⟩ ?_
      rintro μ3 σ h23 X33 ⟨w, bb, rfl, hw, xx3, em3⟩ hX33
      simp only
      by_cases hw8 : w < 8
      · refine brT (decide_eq_true (by omega)) ?_
        refine rdG (s := ⟨some ⟨b32, 0, none⟩, 8, 8⟩) (hE.ext xx3) (show w < eightL.length from hw8) fun z hz => ?_
        have hsw := eightL_short _ (List.getElem_mem (show w < eightL.length from hw8))
        generalize eightL[w]'hw8 = d at hz hsw
        have st := Hs.start h23 [cl b24 ty_formula_Formula [.int .i64 2, .slice r23.a r23.len r23.cap], lli [a, b] r23, li a p, li d z] (by
          intro A hA
          simp only [List.mem_cons, List.not_mem_nil, or_false] at hA
          rcases hA with rfl | rfl | rfl | rfl
          · exact hF.ext xx3
          · exact hr.ext xx3
          · exact hp.ext xx3
          · exact hz)
        refine ldF (st.fblk 0 rfl) (nzI (by decide) ?_)
        refine udF st (st.fz 1 rfl) (st.fz 3 rfl) hab (by omega) (show (2 : Int) ≤ 60 by decide) fun h24 st => ?_
        refine jn_in fun J hJ => brF rfl ?_
        refine ldF (st.fblk 0 rfl) ?_
        refine udF st (st.fz 1 rfl) (st.fz 3 rfl) hab (by omega) (show (2 : Int) ≤ 60 by decide) fun h25 st => hJ _ _ ?_
        clear J hJ
        refine jn_in fun J hJ => brF rfl ?_
        refine ldF (st.fblk 0 rfl) (nzI (by decide) ?_)
        refine imF st (st.fz 1 rfl) (st.fz 3 rfl) hab (by omega) (show (2 : Int) ≤ 60 by decide) fun h26 st => hJ _ _ ?_
        clear J hJ
        refine jn_in fun J hJ => brF rfl ?_
        refine ldF (st.fblk 0 rfl) ?_
        refine imF st (st.fz 1 rfl) (st.fz 2 rfl) hab (by omega) (show (2 : Int) ≤ 60 by decide) fun h27 st => hJ _ _ (brF rfl ?_)
        rw [inc_i (by omega)]
        exact hX33 _ _ _ ⟨w + 1, bb, rfl, by omega, xx3.nil_trans (st.frame (by simp)), rfl⟩ (by omega)
      · refine brF (decide_eq_false (by omega)) ?_
        rw [inc_i (by omega)]
        exact hX18 _ _ _ ⟨k + 1, bb, rfl, by omega, xx2.nil_trans (x22.nil_trans xx3), rfl⟩ (by omega)
    · refine brF (show decide ((k : Int) < (14 : Int)) = false from decide_eq_false (by omega)) ?_
      rw [inc_i (by omega)]
      exact hX14 _ _ _ ⟨i + 1, bb, rfl, by omega, xx.nil_trans xx2, hS.ext xx2, rfl⟩ (by omega)
  refine brF (decide_eq_false (by omega)) ?_
  clear hX14 hS e13 eN hSs
  -- all clauses of four variables
  have st : Hs [([], h17)] [] [] h17 := Hs.start h17 [] (by simp)
  have st := st.nilg (fun c p => io c p) ty_sl_int none
  simp only [List.nil_append] at st
  refine lfp_invh (I := fun μ σ h' => ∃ (w : Nat) (M : List (List Int)) (sA : Sl), σ = ((w : Int), sA, ()) ∧ w ≤ 16 ∧ M.length = w ∧ (∀ c ∈ M, Row4 c) ∧ Hs [([], h17)] [] [oii M sA] h' ∧ μ = 16 - w) ⟨_, 0, [], _, rfl, by omega, rfl, by simp, st, rfl⟩ ?_
  clear st
  rintro μ1 σ h18 X51 ⟨w, M, sA, rfl, hw, hMl, hM, st, em1⟩ hX51
  simp only
  by_cases hw16 : w < 16
  · refine brT (decide_eq_true (by omega)) ?_
    have st := st.nil ty_int i64.enc none
    simp only [List.cons_append, List.nil_append] at st
    refine lfp_invh (I := fun μ σ h' => ∃ (v : Nat) (c : List Int) (sc : Sl), σ = ((v : Int), sc, ()) ∧ v ≤ 4 ∧ c.length = v ∧ (∀ x ∈ c, rt x = true ∧ beyP 4 x = false) ∧ Hs [([], h17)] [] [oii M sA, io c sc] h' ∧ μ = 4 - v) ⟨_, 0, [], _, rfl, by omega, rfl, by simp, st, rfl⟩ ?_
    clear st
    rintro μ2 σ h19 X53 ⟨v, c, sc, rfl, hv, hcl, hc, st, em2⟩ hX53
    simp only
    by_cases hv4 : v < 4
    · refine brT (show decide ((v : Int) < (4 : Int)) = true from decide_eq_true (by omega)) ?_
      rw [ge0_ok (Int.natCast_nonneg v)]
      have hx := litW_good ⟨w, hw16⟩ ⟨v, hv4⟩
      simp only at hx
      have e : litW (w : Int) (v : Int) = litW (w : Int) (v : Int) := rfl
      generalize hgx : litW (w : Int) (v : Int) = x at hx
      show (nw #[.int .i64 (litW (w : Int) (v : Int))] ty_int _) h19
      rw [hgx]
      refine st.nw fun b55 h20 st => ?_
      simp only [List.cons_append, List.nil_append] at st
      refine st.apd (v := x) 1 2 rfl rfl (by decide) rfl (by omega) (by decide) rfl fun s56 h21 st => ?_
      simp only [List.set_cons_zero, List.set_cons_succ] at st
      have st := st.drop 2 rfl
      rw [inc_i (by omega)]
      refine hX53 _ _ _ ⟨v + 1, c ++ [x], s56, rfl, by omega, by simp; omega, fun y hy => ?_, st, rfl⟩ (by omega)
      rcases List.mem_append.1 hy with k | k
      · exact hc y k
      · simp at k; subst k; exact hx
    · refine brF (show decide ((v : Int) < (4 : Int)) = false from decide_eq_false (by omega)) ?_
      refine st.nw fun b57 h20 st => ?_
      simp only [List.cons_append, List.nil_append] at st
      refine Hs.apdG (I := fun c p => io c p) (x := c) (p := sc) st 0 2 1 rfl rfl rfl (by decide) (by decide) (by omega) (by decide) rfl fun s58 h21 st => ?_
      have st := (st.drop 2 rfl).drop 1 rfl
      rw [inc_i (by omega)]
      refine hX51 _ _ _ ⟨w + 1, M ++ [c], s58, rfl, by omega, by simp; omega, fun y hy => ?_, st, rfl⟩ (by omega)
      rcases List.mem_append.1 hy with k | k
      · exact hM y k
      · simp at k; subst k; exact ⟨by omega, hc⟩
  refine brF (decide_eq_false (by omega)) ?_
  clear hX51
  have st := Hs.fzl (As := []) st
  simp only [List.nil_append] at st
  have lA := rsg_len (oii_at (st.fz 0 rfl))
  have sM : Short3 M := ⟨by omega, fun c hc => by have := (hM c hc).1; omega⟩
  have hg := good4 hM (by omega)
  refine ofF (s := sA) (M := M) st (oii_at (st.fz 0 rfl)) sM fun r59 h20 st => ?_
  refine Hs.frml st fun b60 h21 st => ?_
  refine nwF st fun b61 h22 st => ?_
  simp only [List.cons_append, List.nil_append] at st
  have hN : At h22 (li [-9223372036854775808, -1, 0, 13, 14, 15, 30, 16777216, 16777217, 9223372036854775807] ⟨some ⟨b61, 0, none⟩, 10, 10⟩) := cl_li (st.fz 3 rfl) rfl rfl
  have hA := oii_at (st.fz 0 rfl)
  have hR := llo_at (st.fz 1 rfl)
  have hF := st.fz 2 rfl
  have x22 : Ext [] h h22 := xx.nil_trans (st.frame (by simp))
  clear st
  refine lfp_invh (I := fun μ σ h' => ∃ (i : Nat) (bb : Bool), σ = ((i : Int), bb, ()) ∧ i ≤ 10 ∧ Ext [] h22 h' ∧ μ = 10 - i) ⟨_, 0, bb, rfl, by omega, Ext.refl' _ _, rfl⟩ ?_
  rintro μ2 σ h23 X62 ⟨i, bb, rfl, hi, xx2, em2⟩ hX62
  simp only
  have st := Hs.start h23 [lli M sA, lli M r59, cl b60 ty_formula_Formula [.int .i64 4, .slice r59.a r59.len r59.cap]] (by
    intro A hA'
    simp only [List.mem_cons, List.not_mem_nil, or_false] at hA'
    rcases hA' with rfl | rfl | rfl
    · exact hA.ext xx2
    · exact hR.ext xx2
    · exact hF.ext xx2)
  by_cases hi10 : i < 10
  · refine brT (decide_eq_true (by omega)) ?_
    refine rdE (τ := i64) (s := ⟨some ⟨b61, 0, none⟩, 10, 10⟩) (hN.ext xx2) (show i < 10 from hi10) ?_
    generalize ([-9223372036854775808, -1, 0, 13, 14, 15, 30, 16777216, 16777217, 9223372036854775807] : List Int)[i]'hi10 = x
    refine ldF (st.fblk 2 rfl) ?_
    refine udF (c := []) (p := ⟨none, 0, 0⟩) st (st.fz 1 rfl) nil_li sM (by simp) (show (4 : Int) ≤ 60 by decide) fun h24 st => ?_
    refine jn_in fun J hJ => brF rfl ?_
    refine ⟨by decide, by show (1 : Int) ≤ (sA.len : Int); omega, ?_⟩
    have hD := lli_drop (n := 1) (st.fz 0 rfl) (by omega)
    refine ofF (n := 4) (M := M.drop 1) st hD ⟨by simp; omega, fun c hc => by have := (hM c (List.mem_of_mem_drop hc)).1; omega⟩ fun r75 h25 st => ?_
    simp only [List.cons_append, List.nil_append] at st
    refine udF (c := []) (p := ⟨none, 0, 0⟩) st (llo_at (st.fz 3 rfl)) nil_li ⟨by simp; omega, fun c hc => by have := (hM c (List.mem_of_mem_drop hc)).1; omega⟩ (by simp) (show (4 : Int) ≤ 60 by decide) fun h26 st => hJ _ _ ?_
    clear J hJ
    refine jn_in fun J hJ => brF rfl ?_
    refine ldF (st.fblk 2 rfl) ?_
    refine imF (c := []) (p := ⟨none, 0, 0⟩) st (st.fz 1 rfl) nil_li sM (by simp) (show (4 : Int) ≤ 60 by decide) fun h27 st => hJ _ _ (brF rfl ?_)
    rw [inc_i (by omega)]
    exact hX62 _ _ _ ⟨i + 1, bb, rfl, by omega, xx2.nil_trans (st.frame (by simp)), rfl⟩ (by omega)
  refine brF (decide_eq_false (by omega)) ?_
  clear hX62
  have x23 : Ext [] h h23 := x22.nil_trans xx2
  refine nwF st fun b77 h24 st => ?_
  refine nwF st fun b78 h25 st => ?_
  simp only [List.cons_append, List.nil_append] at st
  refine ofF (s := ⟨some ⟨b78, 0, none⟩, 1, 1⟩) (M := [[-40, 1]]) st (rows1_at (p := ⟨some ⟨b77, 0, none⟩, 2, 2⟩) (cl_rows (ps := [⟨some ⟨b77, 0, none⟩, 2, 2⟩]) (st.fz 4 rfl) rfl rfl) (cl_li (c := [-40, 1]) (st.fz 3 rfl) rfl rfl)) ⟨by simp, fun c hc => by simp at hc; subst hc; simp⟩ fun r79 h26 st => ?_
  simp only [List.cons_append, List.nil_append] at st
  have g40 : GoodF 40 [[-40, 1]] := ⟨rfl, by decide, by decide⟩
  refine Hs.All (n := 40) (cs := [[-40, 1]]) st (llo_at (st.fz 5 rfl)) (by decide) (by decide) (fun hc => absurd (check_good.2 g40) hc) fun hc bA s5 h27 st => ?_
  simp only [List.cons_append, List.nil_append] at st
  have st := st.imp 1 (A' := lli [[-40, 1]] s5) rfl fun S h p => rsg_imp (fun c p S h q => osl_rsl q) (osg_rsg p)
  have st := (st.freeze 0 rfl).freeze 0 rfl
  simp only [List.cons_append, List.nil_append, List.set_cons_zero, List.set_cons_succ, List.eraseIdx_cons_succ, List.eraseIdx_cons_zero] at st
  refine jn_in fun J hJ => brF rfl ⟨.inr ⟨_, _, _, rfl⟩, hJ _ _ (brF rfl ?_)⟩
  clear J hJ
  refine st.nw fun b83 h28 st => ?_
  refine st.st1 0 0 rfl (by simp) fun h29 st => ?_
  simp only [List.cons_append, List.nil_append, List.set_cons_zero] at st
  obtain ⟨A40, B40, e40, l40, z40⟩ := mods40
  have eA : allL 40 [[-40, 1]] = A40 ++ B40 := (allL_eq (v := 40) g40).trans e40
  have hrow : ∀ m ∈ A40 ++ B40, m.length = 40 := fun m hm => by rw [← e40] at hm; exact (modelsF_row hm).1
  refine jn_in fun J hJ => ?_
  have done : ∀ h', Hs [([], h23)] [lli M sA, lli M r59, cl b60 ty_formula_Formula [.int .i64 4, .slice r59.a r59.len r59.cap], cl b77 ty_int [.int .i64 (-40), .int .i64 1], cl b78 ty_sl_int [.slice (some ⟨b77, 0, none⟩) 2 2], llo [[-40, 1]] r79, cl bA ty_formula_Formula [.int .i64 40, .slice s5.a s5.len s5.cap], lli [[-40, 1]] s5] [cl b83 ty_int [.int .i64 6]] h' → J () h' := by
    intro h' st
    refine hJ _ _ ?_
    clear hJ
    clear J
    refine call_of (lawOf_c (s := ⟨none, 0, 0⟩) (cs := []) (n := -1) nil_lli (by simp) (by simp)) ?_
    rintro _ h30 ⟨r86, rfl, n86, x86⟩
    have st := Hs.fzl (st.new x86 n86)
    simp only [List.cons_append, List.nil_append] at st
    have e50 : (checkP (-1) []).2 = 50 := by decide
    refine Hs.All (n := -1) (cs := []) st (llo_at (st.fz 8 rfl)) (by decide) (by decide) (fun hc h31 st => ?_) (fun hc => by rw [e50] at hc; cases hc)
    rw [e50]
    refine ldF (st.fblk 2 rfl) ?_
    obtain ⟨N, hNN⟩ : ∃ N : Nat, N = 4097 := ⟨_, rfl⟩
    have eN : (4097 : Int) = (N : Int) := by omega
    rw [eN]
    refine Hs.mks1 (n := N) (τ := i64) (z := (0 : Int)) st (by omega) (by decide) fun s89 h32 st => ?_
    simp only [List.cons_append, List.nil_append] at st
    have eI : impliedP 4 M (List.replicate N 0) 5 = (false, 20) := by
      have hw : wrongP 4 M 5 = 0 := by unfold wrongP; rw [if_neg (by simp [check_good.2 hg]), if_neg (by omega)]
      unfold impliedP
      rw [if_neg (by simp [hw]), if_pos]
      unfold rightC
      rw [List.length_replicate, decide_eq_false (by omega), Bool.false_and]
    refine call_of (implied_c (n := 4) (fu := 5) (st.fz 1 rfl) (st.own 1 rfl).rsl sM.1 sM.2 (by simp; omega) (fun _ => by decide)) ?_
    rw [eI]
    rintro _ h33 ⟨rfl, x33⟩
    have st := st.ext x33
    rw [st.ldi 0 0 rfl rfl]
    refine jn_in fun J hJ => brT rfl ⟨.inl rfl, hJ _ _ ?_⟩
    clear J hJ
    refine jn_in fun J hJ => brT rfl (hJ _ _ ?_)
    clear J hJ
    refine jn_in fun J hJ => brT rfl (hJ _ _ ?_)
    clear J hJ
    refine jn_in fun J hJ => brT rfl ?_
    refine call_of (dawake_c _) ?_
    rintro _ h34 ⟨rfl, x34⟩
    refine hJ _ _ ?_
    intro h35 hMk
    have st := (st.ext x34)
    exact hK _ _ ⟨rfl, (x23.nil_trans (st.frame (by simp))).marked hMk⟩
  refine st.rangeG (allNx (A40 ++ B40)) (allGf (A40 ++ B40)) (allFin (A40 ++ B40)) (by
      have := all_hit (fr := [([], h23)]) (h := h29) (v := 40) (cs := [[-40, 1]]) (s := s5) (b := bA) 6 7 (G := [lli M sA, lli M r59, cl b60 ty_formula_Formula [.int .i64 4, .slice r59.a r59.len r59.cap], cl b77 ty_int [.int .i64 (-40), .int .i64 1], cl b78 ty_sl_int [.slice (some ⟨b77, 0, none⟩) 2 2], llo [[-40, 1]] r79, cl bA ty_formula_Formula [.int .i64 40, .slice s5.a s5.len s5.cap], lli [[-40, 1]] s5]) rfl rfl g40 (by decide)
      rw [eA] at this
      exact this) (fun _ _ _ _ => rfl)
    (fun pre Bs => pre.length ≤ 5 ∧ Bs = [cl b83 ty_int [.int .i64 (pre.length : Int)]])
    (fun j Bs => j = .exit 12 ∧ Bs = [cl b83 ty_int [.int .i64 6]]) ⟨by simp, rfl⟩ ?_ ?_ ?_ ?_
  · rintro pre ⟨x, ⟨⟩⟩ Bs B hb hnx ⟨hpl, rfl⟩ st next jump hnext hjump
    have hlt : pre.length < (A40 ++ B40).length := hnx
    have eg : allGf (A40 ++ B40) pre (x, ()) = ob (A40 ++ B40)[pre.length] x := by
      show ob ((A40 ++ B40).getD pre.length []) x = _
      rw [List.getD_eq_getElem?_getD, List.getElem?_eq_getElem hlt]; rfl
    rw [eg] at st
    simp only [List.nil_append, List.cons_append] at st
    simp only
    have hml := hrow _ (List.getElem_mem hlt)
    have hz0 : pre.length = 0 → (A40 ++ B40)[pre.length] = List.replicate 40 false := by
      intro e0
      have : (A40 ++ B40)[pre.length]? = some (List.replicate 40 false) := by rw [e0, List.getElem?_append_left (by omega), z40]
      rw [List.getElem?_eq_getElem hlt] at this
      exact Option.some.inj this
    generalize (A40 ++ B40)[pre.length] = mm at *
    rw [st.ldi 0 0 rfl rfl, inc_i (by omega)]
    refine st.st1 0 0 rfl (by simp) fun h30 st => ?_
    simp only [List.set_cons_zero] at st
    have lx := osl_len (st.own 1 rfl)
    refine jn_in fun J1 hJ1 => brF (show ((x.len : Int) != 40) = false by rw [lx, hml]; rfl) ?_
    rw [st.ldi 0 0 rfl rfl]
    have fin : J1 false h30 := by
      refine hJ1 _ _ (jn_in fun J2 hJ2 => brF rfl ?_)
      rw [st.ldi 0 0 rfl rfl]
      refine hJ2 _ _ ?_
      by_cases h5 : pre.length = 5
      · refine brT (decide_eq_true (show ((pre.length + 1 : Nat) : Int) > 5 by omega)) (hjump _ _ _ ⟨rfl, ?_⟩ (st.drop 1 rfl))
        rw [h5]; rfl
      · refine brF (decide_eq_false (show ¬ ((pre.length + 1 : Nat) : Int) > 5 by omega)) (hnext _ _ ⟨by simp; omega, ?_⟩ (st.drop 1 rfl))
        rw [List.length_append, List.length_singleton]; rfl
    refine jn_in fun J3 hJ3 => ?_
    by_cases h0 : pre.length = 0
    · refine brT (by rw [h0]; rfl) ?_
      refine call_of (contains_bools (st.own 1 rfl).rsl (by omega) true) ?_
      rintro _ h31 ⟨er, e⟩; have e' := e.symm; subst e'
      have er : _ = false := er.trans (by rw [hz0 h0]; decide)
      subst er
      exact hJ3 _ _ fin
    · exact brF (show (((pre.length + 1 : Nat) : Int) == 1) = false from beq_eq_false_iff_ne.2 (by omega)) (hJ3 _ _ fin)
  · rintro pre Bs h3 hfin ⟨hpl, rfl⟩ st
    have hfin : pre.length = (A40 ++ B40).length := hfin
    rw [List.length_append] at hfin
    omega
  · rintro Bs h3 ⟨hj, _⟩; cases hj
  · rintro i id K' hi hk Bs h' ⟨hj, rfl⟩ st
    match i, hi, hk with
    | 0, hi, hk =>
      simp at hi hk; subst hk
      exact done _ st
    | i + 1, hi, _ => simp at hi

end Go.Proofs.S
