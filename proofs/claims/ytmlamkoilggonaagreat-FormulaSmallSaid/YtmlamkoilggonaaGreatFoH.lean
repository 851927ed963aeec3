/-
  The package formula: Models, Count, First: contracts.
-/
import Derived.Test.YtmlamkoilggonaaGreatSxO
import Derived.Test.YtmlamkoilggonaaGreatCrQ
import Derived.Test.YtmlamkoilggonaaGreatSxSg
set_option linter.unusedVariables false
set_option linter.unusedSimpArgs false
namespace Go.Proofs.S
open Go Go.Sx Go.Proofs Go.Cl

variable {h : Heap} {c d : List Int} {s s2 : Sl} {fr : Fr} {G As : List Asn} {m : List Bool} {sm : Sl}

theorem filter_at {α : Type} {M : List α} {p : α → Bool} {w : Nat} (hw : w < M.length) (hp : p M[w] = true) (d : α) : ((M.take w).filter p).length < (M.filter p).length ∧ (M.filter p).getD ((M.take w).filter p).length d = M[w] := by
  have e : M.filter p = (M.take w).filter p ++ M[w] :: (M.drop (w + 1)).filter p := by
    conv => lhs; rw [← List.take_append_drop w M, List.drop_eq_getElem_cons hw, List.filter_append, List.filter_cons_of_pos hp]
  rw [e]
  constructor
  · simp
  · rw [List.getD_eq_getElem?_getD, List.getElem?_append_right (Nat.le_refl _)]; simp

abbrev ob (m : List Bool) (s : Sl) : Asn := osl ty_bool Ty.bool.enc m s
def modelsF (v : Nat) (cs : List (List Int)) : List (List Bool) := (Cr.allB v).filter fun m => decide (failsGo m 0 cs < 0)
abbrev modV (b : Nat) : Value := .func (.func fn_formula_Models_1) #[] #[.pointer (some ⟨b, 0, none⟩)]
abbrev cF (b : Nat) (n : Int) (s : Sl) : Asn := cl b ty_formula_Formula [.int .i64 n, .slice s.a s.len s.cap]
abbrev modNx (v : Nat) (cs : List (List Int)) (pre : List (Sl × Unit)) (x : Sl × Unit) : Prop := pre.length < (modelsF v cs).length
abbrev modGf (v : Nat) (cs : List (List Int)) (pre : List (Sl × Unit)) (x : Sl × Unit) : Asn := ob ((modelsF v cs).getD pre.length []) x.1
abbrev modFin (v : Nat) (cs : List (List Int)) (pre : List (Sl × Unit)) : Prop := pre.length = (modelsF v cs).length

theorem models_iter {b v : Nat} {cs : List (List Int)} {s : Sl} {F : List Nat} (hG : ∀ C ∈ [cF b v s, lli cs s], ∃ SC, C.P SC h ∧ ∀ b ∈ SC, b ∈ F) (hF : ∀ b ∈ F, b < h.size) (hg : GoodF v cs) (hv : v ≤ 16) :
    IterG Tryz.prog (.cons .sl .nil) (modV b) h (fun pre x h2 N => modNx v cs pre x ∧ (modGf v cs pre x).P N h2) (modFin v cs) F [] := by
  refine iter_of hG hF ?_
  intro A D B0 yl c it K hfin hD
  refine callF_func (S_formula_Models_1 (a0 := yl) (c0 := ⟨b, 0, none⟩) K ?_)
  unfold F_formula_Models_1
  obtain ⟨S, st, close⟩ := it.open c
  rw [ld_int (i := 0) (st.fblk 0 rfl) rfl]
  have it := close _ _ st
  refine ⟨Int.natCast_nonneg _, ?_⟩
  rw [pow64' (show v ≤ 60 by omega)]
  have hM : (Cr.allB v).length = 2 ^ v := Cr.allB_len v
  have hN2 : 2 ^ v ≤ 2 ^ 16 := Nat.pow_le_pow_right (by decide) hv
  have e16 : (2 : Nat) ^ 16 = 65536 := by decide
  rw [e16] at hN2
  have hget : ∀ w (hw : w < (Cr.allB v).length), (Cr.allB v)[w] = Cr.bitsB v w := fun w hw => by simp only [Cr.allB_bits, List.getElem_map, List.getElem_range]
  rw [← hM] at hN2 ⊢
  clear st close
  refine lfp_invh (I := fun μ σ h' => ∃ (w : Nat) (pre : List (Sl × Unit)) (B : List Nat), σ = ((w : Int), ()) ∧ w ≤ (Cr.allB v).length ∧ pre.length = (((Cr.allB v).take w).filter fun m => decide (failsGo m 0 cs < 0)).length ∧ It h F A [cF b v s, lli cs s] [] pre B h' ∧ μ = (Cr.allB v).length - w)
    ⟨_, 0, [], B0, rfl, by omega, rfl, it, rfl⟩ ?_
  clear it
  rintro μ σ h1 X ⟨w, pre, B, rfl, hw, hp, it, em⟩ hX
  simp only
  by_cases hlt : w < (Cr.allB v).length
  · rw [decide_eq_true (Int.ofNat_lt.2 hlt), brB_true, inc_i (show w < 4611686018427387904 by omega)]
    obtain ⟨S, st, close⟩ := it.open c
    rw [ld_int (i := 0) (st.fblk 0 rfl) rfl]
    refine Hs.mks1 (n := v) (τ := .bool) (z := false) st (by omega) (by decide) fun s4 h2 st => ?_
    simp only [List.nil_append] at st
    have l4 : s4.len = v := by rw [osl_len (st.own 0 rfl)]; simp
    refine lfp_invh (I := fun μ σ h' => ∃ i : Nat, σ = ((i : Int), ()) ∧ i ≤ v ∧ Hs [(S, h1)] [cF b v s, lli cs s] [ob (((List.range i).map fun i => decide (w / 2 ^ (v - 1 - i) % 2 = 1)) ++ List.replicate (v - i) false) s4] h' ∧ μ = v - i) ⟨_, 0, rfl, by omega, by simpa using st, rfl⟩ ?_
    clear st
    rintro μ2 σ h3 X2 ⟨i, rfl, hi, st, em2⟩ hX2
    simp only
    by_cases hlt2 : i < v
    · rw [decide_eq_true (show (i : Int) < (s4.len : Int) by omega), brB_true, inc_i (show i < 4611686018427387904 by omega)]
      rw [ld_int (i := 0) (st.fblk 0 rfl) rfl]
      have ej : IntKind.wrap .i64 ((IntKind.wrap .i64 ((v : Int) - (1 : Int))) - (i : Int)) = ((v - 1 - i : Nat) : Int) := by
        rw [wrap_i64 (x := (v : Int) - 1) (by omega) (by omega), wrap_i64 (by omega) (by omega)]; omega
      rw [ej]
      refine ⟨Int.natCast_nonneg _, ?_⟩
      have hq : w / 2 ^ (v - 1 - i) < 4611686018427387904 := Nat.lt_of_le_of_lt (Nat.div_le_self _ _) (by omega)
      rw [shr_nat' (by omega), band64' hq]
      refine st.wrE (τ := .bool) 0 rfl (show i < _ by simp; omega) _ fun h4 st => ?_
      refine hX2 _ _ _ ⟨i + 1, rfl, by omega, ?_, rfl⟩ (by omega)
      simp only [List.set_cons_zero] at st
      rw [set_map_range' (fun i => decide (w / 2 ^ (v - 1 - i) % 2 = 1)) v i false hlt2] at st
      exact st
    rw [decide_eq_false (show ¬ (i : Int) < (s4.len : Int) by omega), brB_false]
    have e : i = v := by omega
    subst e
    rw [Nat.sub_self, List.replicate_zero, List.append_nil] at st
    change Hs [(S, h1)] [cF b i s, lli cs s] [ob (Cr.bitsB i w) s4] h3 at st
    clear hX2 X2 em2 hlt2 hi
    refine ldF (st.fblk 0 rfl) ?_
    have hb := bitsB_len' i w
    have hfc := fails_c (m := Cr.bitsB i w) (st.fz 1 rfl) (st.own 0 rfl).rsl (by rw [hb]; exact hg)
    rw [hb] at hfc
    refine call_of hfc ?_
    rintro r h5 ⟨er, x5⟩
    have er : r = failsGo (Cr.bitsB i w) 0 cs := er
    subst er
    have st := st.ext x5
    have htk : (Cr.allB i).take (w + 1) = (Cr.allB i).take w ++ [Cr.bitsB i w] := by rw [take_succ_getE hlt, hget w hlt]
    by_cases hok : failsGo (Cr.bitsB i w) 0 cs < 0
    · rw [decide_eq_true hok, brB_true]
      have it := close _ _ st
      have hfa := filter_at (p := fun m => decide (failsGo m 0 cs < 0)) hlt (by rw [hget w hlt]; exact decide_eq_true hok) []
      rw [hget w hlt] at hfa
      have hl2 : pre.length < (modelsF i cs).length := by rw [hp]; exact hfa.1
      have hl3 : (modelsF i cs).getD (((Cr.allB i).take w).filter fun m => decide (failsGo m 0 cs < 0)).length [] = Cr.bitsB i w := hfa.2
      · refine it.give c (x := (s4, ())) 0 rfl (fun N hN => ⟨hl2, ?_⟩) (fun B' h4 it => ?_) (fun B' h4 hd => hD B' h4 hd)
        · show (ob ((modelsF _ cs).getD pre.length []) s4).P N _
          rw [hp, hl3]; exact hN
        rw [Bool.not_true, brB_false]
        refine hX _ _ _ ⟨w + 1, _, B', rfl, by omega, ?_, it, rfl⟩ (by omega)
        rw [List.length_append, hp, htk, List.filter_append, List.length_append]
        simp [hok]
    · rw [decide_eq_false hok, brB_false]
      refine hX _ _ _ ⟨w + 1, pre, B, rfl, by omega, ?_, close _ _ (st.drop 0 rfl), rfl⟩ (by omega)
      rw [hp, htk, List.filter_append]
      simp [hok]
  rw [decide_eq_false (fun q => hlt (Int.ofNat_lt.1 q)), brB_false]
  refine hfin pre B _ ?_ it.1
  show pre.length = (modelsF _ cs).length
  rw [hp, List.take_of_length_le (by omega)]; rfl

theorem modelsV_iter {b v : Nat} {cs : List (List Int)} {s : Sl} {F : List Nat} (hG : ∀ C ∈ [cF b v s, lli cs s], ∃ SC, C.P SC h ∧ ∀ b ∈ SC, b ∈ F) (hF : ∀ b ∈ F, b < h.size) (hg : GoodF v cs) (hv : v ≤ 16) :
    IterG Tryz.prog (.cons .val .nil) (modV b) h (fun pre x _ N => (pre.length < (modelsF v cs).length) ∧ N = []) (fun pre => pre.length = (modelsF v cs).length) F [] := by
  refine iter_of hG hF ?_
  intro A D B0 yl c it K hfin hD
  refine callF_func (S_formula_Models_1 (a0 := yl) (c0 := ⟨b, 0, none⟩) K ?_)
  unfold F_formula_Models_1
  obtain ⟨S, st, close⟩ := it.open c
  rw [ld_int (i := 0) (st.fblk 0 rfl) rfl]
  have it := close _ _ st
  refine ⟨Int.natCast_nonneg _, ?_⟩
  rw [pow64' (show v ≤ 60 by omega)]
  have hM : (Cr.allB v).length = 2 ^ v := Cr.allB_len v
  have hN2 : 2 ^ v ≤ 2 ^ 16 := Nat.pow_le_pow_right (by decide) hv
  have e16 : (2 : Nat) ^ 16 = 65536 := by decide
  rw [e16] at hN2
  have hget : ∀ w (hw : w < (Cr.allB v).length), (Cr.allB v)[w] = Cr.bitsB v w := fun w hw => by simp only [Cr.allB_bits, List.getElem_map, List.getElem_range]
  rw [← hM] at hN2 ⊢
  clear st close
  refine lfp_invh (I := fun μ σ h' => ∃ (w : Nat) (pre : List (Value × Unit)) (B : List Nat), σ = ((w : Int), ()) ∧ w ≤ (Cr.allB v).length ∧ pre.length = (((Cr.allB v).take w).filter fun m => decide (failsGo m 0 cs < 0)).length ∧ It h F A [cF b v s, lli cs s] [] pre B h' ∧ μ = (Cr.allB v).length - w)
    ⟨_, 0, [], B0, rfl, by omega, rfl, it, rfl⟩ ?_
  clear it
  rintro μ σ h1 X ⟨w, pre, B, rfl, hw, hp, it, em⟩ hX
  simp only
  by_cases hlt : w < (Cr.allB v).length
  · rw [decide_eq_true (Int.ofNat_lt.2 hlt), brB_true, inc_i (show w < 4611686018427387904 by omega)]
    obtain ⟨S, st, close⟩ := it.open c
    rw [ld_int (i := 0) (st.fblk 0 rfl) rfl]
    refine Hs.mks1 (n := v) (τ := .bool) (z := false) st (by omega) (by decide) fun s4 h2 st => ?_
    simp only [List.nil_append] at st
    have l4 : s4.len = v := by rw [osl_len (st.own 0 rfl)]; simp
    refine lfp_invh (I := fun μ σ h' => ∃ i : Nat, σ = ((i : Int), ()) ∧ i ≤ v ∧ Hs [(S, h1)] [cF b v s, lli cs s] [ob (((List.range i).map fun i => decide (w / 2 ^ (v - 1 - i) % 2 = 1)) ++ List.replicate (v - i) false) s4] h' ∧ μ = v - i) ⟨_, 0, rfl, by omega, by simpa using st, rfl⟩ ?_
    clear st
    rintro μ2 σ h3 X2 ⟨i, rfl, hi, st, em2⟩ hX2
    simp only
    by_cases hlt2 : i < v
    · rw [decide_eq_true (show (i : Int) < (s4.len : Int) by omega), brB_true, inc_i (show i < 4611686018427387904 by omega)]
      rw [ld_int (i := 0) (st.fblk 0 rfl) rfl]
      have ej : IntKind.wrap .i64 ((IntKind.wrap .i64 ((v : Int) - (1 : Int))) - (i : Int)) = ((v - 1 - i : Nat) : Int) := by
        rw [wrap_i64 (x := (v : Int) - 1) (by omega) (by omega), wrap_i64 (by omega) (by omega)]; omega
      rw [ej]
      refine ⟨Int.natCast_nonneg _, ?_⟩
      have hq : w / 2 ^ (v - 1 - i) < 4611686018427387904 := Nat.lt_of_le_of_lt (Nat.div_le_self _ _) (by omega)
      rw [shr_nat' (by omega), band64' hq]
      refine st.wrE (τ := .bool) 0 rfl (show i < _ by simp; omega) _ fun h4 st => ?_
      refine hX2 _ _ _ ⟨i + 1, rfl, by omega, ?_, rfl⟩ (by omega)
      simp only [List.set_cons_zero] at st
      rw [set_map_range' (fun i => decide (w / 2 ^ (v - 1 - i) % 2 = 1)) v i false hlt2] at st
      exact st
    rw [decide_eq_false (show ¬ (i : Int) < (s4.len : Int) by omega), brB_false]
    have e : i = v := by omega
    subst e
    rw [Nat.sub_self, List.replicate_zero, List.append_nil] at st
    change Hs [(S, h1)] [cF b i s, lli cs s] [ob (Cr.bitsB i w) s4] h3 at st
    clear hX2 X2 em2 hlt2 hi
    refine ldF (st.fblk 0 rfl) ?_
    have hb := bitsB_len' i w
    have hfc := fails_c (m := Cr.bitsB i w) (st.fz 1 rfl) (st.own 0 rfl).rsl (by rw [hb]; exact hg)
    rw [hb] at hfc
    refine call_of hfc ?_
    rintro r h5 ⟨er, x5⟩
    have er : r = failsGo (Cr.bitsB i w) 0 cs := er
    subst er
    have st := st.ext x5
    have htk : (Cr.allB i).take (w + 1) = (Cr.allB i).take w ++ [Cr.bitsB i w] := by rw [take_succ_getE hlt, hget w hlt]
    by_cases hok : failsGo (Cr.bitsB i w) 0 cs < 0
    · rw [decide_eq_true hok, brB_true]
      have it := close _ _ st
      have hfa := filter_at (p := fun m => decide (failsGo m 0 cs < 0)) hlt (by rw [hget w hlt]; exact decide_eq_true hok) []
      rw [hget w hlt] at hfa
      have hl2 : pre.length < (modelsF i cs).length := by rw [hp]; exact hfa.1
      have hl3 : (modelsF i cs).getD (((Cr.allB i).take w).filter fun m => decide (failsGo m 0 cs < 0)).length [] = Cr.bitsB i w := hfa.2
      · refine it.yield c (x := ((.slice s4.a s4.len s4.cap : Value), ())) hl2 (fun B' h4 it => ?_) (fun B' h4 hd => hD B' h4 hd)
        rw [Bool.not_true, brB_false]
        obtain ⟨S, st, close⟩ := it.open c
        have it := close _ _ (st.drop 0 rfl)
        refine hX _ _ _ ⟨w + 1, _, B', rfl, by omega, ?_, it, rfl⟩ (by omega)
        rw [List.length_append, hp, htk, List.filter_append, List.length_append]
        simp [hok]
    · rw [decide_eq_false hok, brB_false]
      refine hX _ _ _ ⟨w + 1, pre, B, rfl, by omega, ?_, close _ _ (st.drop 0 rfl), rfl⟩ (by omega)
      rw [hp, htk, List.filter_append]
      simp [hok]
  rw [decide_eq_false (fun q => hlt (Int.ofNat_lt.1 q)), brB_false]
  refine hfin pre B _ ?_ it.1
  show pre.length = (modelsF _ cs).length
  rw [hp, List.take_of_length_le (by omega)]; rfl

end Go.Proofs.S

set_option linter.unusedVariables false
set_option linter.unusedSimpArgs false
namespace Go.Proofs.S
open Go Go.Sx Go.Proofs Go.Cl

variable {h : Heap} {c d : List Int} {s s2 : Sl} {fr : Fr} {G As : List Asn} {m : List Bool} {sm : Sl}

theorem good_vars {n : Int} {cs : List (List Int)} (hg : GoodF n cs) : 0 ≤ n ∧ n ≤ 1048576 := by
  have := hg.1
  unfold varsP at this
  simp only [Bool.and_eq_true, decide_eq_true_eq] at this
  exact ⟨this.1, this.2⟩
theorem good_len {n : Int} {cs : List (List Int)} (hg : GoodF n cs) : cs.length ≤ 1048576 ∧ ∀ c ∈ cs, c.length ≤ 1048576 :=
  ⟨by have := hg.2.1; omega, fun c hc => by have := rightC_len (hg.2.2 c hc).1; omega⟩

theorem Hs.Models {n : Int} {cs : List (List Int)} {K : (Value × (Int × Unit)) → HP} (st : Hs fr G As h) (hA : At h (lli cs s))
    (h1 : (checkP n cs).2 ≠ 0 → ∀ h', Hs fr G As h' → Ext [] h h' → K (Value.nilFunc, (checkP n cs).2, ()) h')
    (h2 : (checkP n cs).2 = 0 → n > 16 → ∀ h', Hs fr G As h' → Ext [] h h' → K (Value.nilFunc, 5, ()) h')
    (h3 : ∀ v : Nat, n = v → (checkP n cs).2 = 0 → v ≤ 16 → ∀ b s' h', Hs fr (G ++ [cF b v s', lli cs s']) As h' → K (modV b, 0, ()) h') :
    callT Tryz.prog fn_formula_Models #[.agg #[.int .i64 n, .slice s.a s.len s.cap]] (.tup (.cons .val (.cons (.int .i64) .nil))) K h := by
  refine S_formula_Models (a0 := (n, s, ())) K ?_
  unfold F_formula_Models
  refine st.nwX fun b0 h4 x4 st => ?_
  refine ldF (s := s) (st.blk As.length (lastA _ _)) ?_
  refine call_of (check_c (n := n) (hA.ext x4)) ?_
  rintro _ h5 ⟨rfl, x5⟩
  have st := st.ext x5
  by_cases hc : (checkP n cs).2 = 0
  · simp only
    rw [show ((checkP n cs).2 != 0) = false by simp [hc], brB_false]
    rw [st.ldi As.length 0 (lastA _ _) rfl]
    have hg := check_good.1 hc
    have hv := good_vars hg
    by_cases hn : n > 16
    · rw [decide_eq_true hn, brB_true]
      exact h2 hc hn _ st.dropL (x4.nil_trans x5)
    rw [decide_eq_false hn, brB_false]
    refine ldF (s := s) (st.blk As.length (lastA _ _)) ?_
    refine call_of (copy_c (n := n) ((hA.ext x4).ext x5) (good_len hg).1 (good_len hg).2) ?_
    rintro _ h6 ⟨s5, rfl, n6, x6⟩
    have st := st.dropL.new x6 (llo_lli n6)
    refine st.nw fun b6 h7 st => ?_
    simp only [addr_add, Nat.zero_add]
    refine st.st1 (As ++ [lli cs s5]).length 0 (lastA _ _) (by simp) fun h8 st => ?_
    rw [setL] at st
    refine st.st1 (As ++ [lli cs s5]).length 1 (lastA _ _) (by simp) fun h9 st => ?_
    rw [setL] at st
    have st := st.freeze (As ++ [lli cs s5]).length (lastA _ _)
    rw [List.eraseIdx_append_of_length_le (Nat.le_refl _), Nat.sub_self, List.eraseIdx_cons_zero, List.append_nil] at st
    have st := st.freeze As.length (lastA _ _)
    rw [List.eraseIdx_append_of_length_le (Nat.le_refl _), Nat.sub_self, List.eraseIdx_cons_zero, List.append_nil, List.append_assoc] at st
    obtain ⟨v, rfl⟩ := Int.eq_ofNat_of_zero_le hv.1
    exact h3 v rfl hc (by omega) b6 s5 _ st
  · simp only
    rw [show ((checkP n cs).2 != 0) = true by simpa using hc, brB_true]
    exact h1 hc _ st.dropL (x4.nil_trans x5)

theorem models_hit {b v : Nat} {cs : List (List Int)} (gb gl : Nat) (hgb : G[gb]? = some (cF b v s)) (hgl : G[gl]? = some (lli cs s)) (hg : GoodF v cs) (hv : v ≤ 16) :
    ∀ S, FzOk G S h → FrOk fr S h → ∃ F, (∀ b ∈ F, b < h.size ∧ b ∉ S) ∧ ∀ h1, NewL h h1 → IterG Tryz.prog (.cons .sl .nil) (modV b) h1 (fun pre x h2 N => modNx v cs pre x ∧ (modGf v cs pre x).P N h2) (modFin v cs) F [] := by
  intro S hz _
  obtain ⟨S1, p1, d1⟩ := hz _ (List.mem_of_getElem? hgb)
  obtain ⟨S2, p2, d2⟩ := hz _ (List.mem_of_getElem? hgl)
  have hlt : ∀ b ∈ S1 ++ S2, b < h.size := fun b hb => (List.mem_append.1 hb).elim (At.lt p1 b) (At.lt p2 b)
  refine ⟨S1 ++ S2, fun b hb => ⟨hlt b hb, (List.mem_append.1 hb).elim (d1 b) (d2 b)⟩, fun h1 hn => models_iter (s := s) (fun C hC => ?_) (fun b hb => Nat.lt_of_lt_of_le (hlt b hb) hn.1.1) hg hv⟩
  simp only [List.mem_cons, List.not_mem_nil, or_false] at hC
  rcases hC with rfl | rfl
  · exact ⟨S1, Asn.ext p1 hn.1 (by simp), fun b hb => List.mem_append_left _ hb⟩
  · exact ⟨S2, Asn.ext p2 hn.1 (by simp), fun b hb => List.mem_append_right _ hb⟩
theorem modelsV_hit {b v : Nat} {cs : List (List Int)} (gb gl : Nat) (hgb : G[gb]? = some (cF b v s)) (hgl : G[gl]? = some (lli cs s)) (hg : GoodF v cs) (hv : v ≤ 16) :
    ∀ S, FzOk G S h → FrOk fr S h → ∃ F, (∀ b ∈ F, b < h.size ∧ b ∉ S) ∧ ∀ h1, NewL h h1 → IterSpec Tryz.prog (.cons .val .nil) (modV b) h1 (fun pre x => (pre.length < (modelsF v cs).length)) (fun pre => pre.length = (modelsF v cs).length) F [] := by
  intro S hz _
  obtain ⟨S1, p1, d1⟩ := hz _ (List.mem_of_getElem? hgb)
  obtain ⟨S2, p2, d2⟩ := hz _ (List.mem_of_getElem? hgl)
  have hlt : ∀ b ∈ S1 ++ S2, b < h.size := fun b hb => (List.mem_append.1 hb).elim (At.lt p1 b) (At.lt p2 b)
  refine ⟨S1 ++ S2, fun b hb => ⟨hlt b hb, (List.mem_append.1 hb).elim (d1 b) (d2 b)⟩, fun h1 hn => modelsV_iter (s := s) (fun C hC => ?_) (fun b hb => Nat.lt_of_lt_of_le (hlt b hb) hn.1.1) hg hv⟩
  simp only [List.mem_cons, List.not_mem_nil, or_false] at hC
  rcases hC with rfl | rfl
  · exact ⟨S1, Asn.ext p1 hn.1 (by simp), fun b hb => List.mem_append_left _ hb⟩
  · exact ⟨S2, Asn.ext p2 hn.1 (by simp), fun b hb => List.mem_append_right _ hb⟩

def countF (n : Int) (cs : List (List Int)) : Int × Int := if (checkP n cs).2 ≠ 0 then (0, (checkP n cs).2) else if n > 16 then (0, 5) else (((modelsF n.toNat cs).length : Int), 0)
def firstF (n : Int) (cs : List (List Int)) : List Bool × Bool × Int :=
  if (checkP n cs).2 ≠ 0 then ([], false, (checkP n cs).2) else if n > 16 then ([], false, 5) else match modelsF n.toNat cs with | [] => ([], false, 0) | m :: _ => (m, true, 0)

theorem modelsF_le (v : Nat) (cs : List (List Int)) (hv : v ≤ 16) : (modelsF v cs).length ≤ 65536 := by
  have h1 : (modelsF v cs).length ≤ (Cr.allB v).length := List.length_filter_le _ _
  rw [Cr.allB_len] at h1
  have hN2 : 2 ^ v ≤ 2 ^ 16 := Nat.pow_le_pow_right (by decide) hv
  have e16 : (2 : Nat) ^ 16 = 65536 := by decide
  omega

theorem count_c {n : Int} {cs : List (List Int)} (hA : At h (lli cs s)) :
    callT Tryz.prog fn_formula_Count #[.agg #[.int .i64 n, .slice s.a s.len s.cap]] (.tup (.cons (.int .i64) (.cons (.int .i64) .nil))) (fun r h' => r = ((countF n cs).1, (countF n cs).2, ()) ∧ Ext [] h h') h := by
  refine callT_gen fun K hK => S_formula_Count (a0 := (n, s, ())) K ?_
  unfold F_formula_Count
  show (nw _ _ _) h
  have st := Hs.start h [lli cs s] (by simp [hA])
  refine st.nw fun b0 h1 st => ?_
  simp only [List.nil_append] at st
  refine ldF (s := s) (st.blk 0 rfl) ?_
  refine Hs.Models (n := n) (cs := cs) st (st.fz 0 rfl) (fun hc h2 st _ => ?_) (fun hc hn h2 st _ => ?_) (fun v hv hc hv16 b s' h2 st => ?_)
  · simp only
    rw [show ((checkP n cs).2 != 0) = true by simpa using hc, brB_true]
    intro h3 hM
    exact hK _ _ ⟨by unfold countF; rw [if_pos hc], (st.marked hM).frame (by simp)⟩
  · simp only
    rw [show ((5 : Int) != 0) = true from rfl, brB_true]
    intro h3 hM
    exact hK _ _ ⟨by unfold countF; rw [if_neg (by simp [hc]), if_pos hn], (st.marked hM).frame (by simp)⟩
  · simp only
    rw [show ((0 : Int) != 0) = false from rfl, brB_false]
    subst hv
    have hg := check_good.1 hc
    have hle := modelsF_le v cs hv16
    refine st.nw fun b3 h3 st => ?_
    simp only [List.nil_append, List.cons_append] at st
    refine st.st1 1 0 rfl (by simp) fun h4 st => ?_
    simp only [List.set_cons_zero, List.set_cons_succ] at st
    refine Hs.range st (fun pre x => (pre.length < (modelsF v cs).length)) (fun pre => pre.length = (modelsF v cs).length) (modelsV_hit 1 2 rfl rfl hg hv16) (fun _ _ _ _ => rfl)
      (fun pre Bs => Bs = [cl b0 ty_formula_Formula [.int .i64 v, .slice s.a s.len s.cap], cl b3 ty_int [.int .i64 (pre.length : Int)]]) (fun _ _ => False) rfl ?_ ?_ (fun _ _ hf => hf.elim) (fun i id K hi => by simp at hi)
    · rintro pre ⟨x, ⟨⟩⟩ Bs B hb hlt rfl st next jump hnext hjump
      try simp only
      rw [st.ldi 1 0 rfl rfl, inc_i (show pre.length < 4611686018427387904 by omega)]
      refine st.st1 1 0 rfl (by simp) fun h5 st => ?_
      simp only [List.set_cons_zero, List.set_cons_succ] at st
      refine hnext _ _ ?_ st
      simp only [List.length_append, List.length_singleton]
    · rintro pre Bs h5 hfin rfl st
      rw [st.ldi 1 0 rfl rfl]
      intro h6 hM
      refine hK _ _ ⟨?_, (st.marked hM).frame (by simp)⟩
      unfold countF
      rw [if_neg (by simp [hc]), if_neg (by omega), Int.toNat_natCast, hfin]

theorem first_c {n : Int} {cs : List (List Int)} (hA : At h (lli cs s)) :
    callT Tryz.prog fn_formula_First #[.agg #[.int .i64 n, .slice s.a s.len s.cap]] (.tup (.cons .sl (.cons .bool (.cons (.int .i64) .nil))))
      (fun r h' => ∃ s', r = (s', (firstF n cs).2.1, (firstF n cs).2.2, ()) ∧ New h.size h' (ob (firstF n cs).1 s') ∧ Ext [] h h') h := by
  refine callT_gen fun K hK => S_formula_First (a0 := (n, s, ())) K ?_
  unfold F_formula_First
  show (nw _ _ _) h
  have st := Hs.start h [lli cs s] (by simp [hA])
  refine st.nw fun b0 h1 st => ?_
  refine st.nw fun b1 h2 st => ?_
  refine st.nw fun b2 h3 st => ?_
  refine st.nw fun b3 h4 st => ?_
  simp only [List.nil_append, List.cons_append] at st
  refine ldF (s := s) (st.blk 0 rfl) ?_
  have done : ∀ {G : List Asn} {m : List Bool} {s' : Sl} {is : Bool} {e : Int} {h' : Heap}, firstF n cs = (m, is, e) → Hs [([], h)] G [cl b0 ty_formula_Formula [.int .i64 n, .slice s.a s.len s.cap], cl b1 ty_sl_bool [.slice s'.a s'.len s'.cap], cl b2 ty_bool [.bool is], cl b3 ty_api_Errno [.int .i64 e], ob m s'] h' →
      (mkd h.size <| ldT .sl (⟨b1, 0, none⟩ : Addr) fun x6 => ldT .bool (⟨b2, 0, none⟩ : Addr) fun x7 => ldT (.int .i64) (⟨b3, 0, none⟩ : Addr) fun x8 => K (⟨x6.a, x6.len, x6.cap⟩, x7, x8, ())) h' := by
    intro G m s' is e h' hf st
    intro h6 hM
    have st := st.marked hM
    rw [st.lds 1 0 rfl rfl, st.ldb 2 0 rfl rfl, st.ldi 3 0 rfl rfl]
    refine hK _ _ ⟨s', by rw [hf], ?_, st.frame (by simp)⟩
    rw [hf]
    exact st.res (by simp) 4 rfl
  have none_ : ∀ {G : List Asn} {v1 v2 v3 : List Value} {e : Int} {h' : Heap} {K2 : HP}, v1.length = 1 → v2.length = 1 → v3.length = 1 → (∀ h', Hs [([], h)] G [cl b0 ty_formula_Formula [.int .i64 n, .slice s.a s.len s.cap], cl b1 ty_sl_bool [.slice none 0 0], cl b2 ty_bool [.bool false], cl b3 ty_api_Errno [.int .i64 e]] h' → K2 h') →
      Hs [([], h)] G [cl b0 ty_formula_Formula [.int .i64 n, .slice s.a s.len s.cap], cl b1 ty_sl_bool v1, cl b2 ty_bool v2, cl b3 ty_api_Errno v3] h' →
      (st1 (⟨b1, 0, none⟩ : Addr) (.slice none 0 0) <| st1 (⟨b2, 0, none⟩ : Addr) (.bool false) <| st1 (⟨b3, 0, none⟩ : Addr) (.int .i64 e) <| K2) h' := by
    intro G v1 v2 v3 e h' K2 q1 q2 q3 hK2 st
    match v1, v2, v3, q1, q2, q3 with
    | [x1], [x2], [x3], _, _, _ =>
    refine st.st1 1 0 rfl (by simp) fun h5 st => ?_
    refine st.st1 2 0 rfl (by simp) fun h6 st => ?_
    refine st.st1 3 0 rfl (by simp) fun h7 st => ?_
    exact hK2 _ st
  refine Hs.Models (n := n) (cs := cs) st (st.fz 0 rfl) (fun hc h5 st _ => ?_) (fun hc hn h5 st _ => ?_) (fun v hv hc hv16 b s' h5 st => ?_)
  · simp only
    rw [show ((checkP n cs).2 != 0) = true by simpa using hc, brB_true]
    exact none_ rfl rfl rfl (fun h' st => done (m := []) (s' := ⟨none, 0, 0⟩) (by unfold firstF; rw [if_pos hc]) (st.nil ty_bool Ty.bool.enc none)) st
  · simp only
    rw [show ((5 : Int) != 0) = true from rfl, brB_true]
    exact none_ rfl rfl rfl (fun h' st => done (m := []) (s' := ⟨none, 0, 0⟩) (by unfold firstF; rw [if_neg (by simp [hc]), if_pos hn]) (st.nil ty_bool Ty.bool.enc none)) st
  · simp only
    rw [show ((0 : Int) != 0) = false from rfl, brB_false]
    subst hv
    have hg := check_good.1 hc
    have ef : firstF v cs = match modelsF v cs with | [] => ([], false, 0) | m :: _ => (m, true, 0) := by
      unfold firstF
      rw [if_neg (by simp [hc]), if_neg (by omega), Int.toNat_natCast]
    refine st.rangeG (modNx v cs) (modGf v cs) (modFin v cs) (models_hit 1 2 rfl rfl hg hv16) (fun _ _ _ _ => rfl)
      (fun pre Bs => pre = [] ∧ Bs = [cl b0 ty_formula_Formula [.int .i64 v, .slice s.a s.len s.cap], cl b1 ty_sl_bool [.slice none 0 0], cl b2 ty_bool [.bool false], cl b3 ty_api_Errno [.int .i64 0]])
      (fun j Bs => j = .ret ∧ ∃ (m : List Bool) (r : List (List Bool)) (s' : Sl), modelsF v cs = m :: r ∧ Bs = [cl b0 ty_formula_Formula [.int .i64 v, .slice s.a s.len s.cap], cl b1 ty_sl_bool [.slice s'.a s'.len s'.cap], cl b2 ty_bool [.bool true], cl b3 ty_api_Errno [.int .i64 0], ob m s']) ⟨rfl, rfl⟩ ?_ ?_ ?_ (fun i id K hi => by simp at hi)
    · rintro pre ⟨x, ⟨⟩⟩ Bs B hb hlt ⟨rfl, rfl⟩ st next jump hnext hjump
      simp only [List.nil_append, List.cons_append] at st
      simp only
      refine st.st1 1 0 rfl (by simp) fun h6 st => ?_
      refine st.st1 2 0 rfl (by simp) fun h7 st => ?_
      refine st.st1 3 0 rfl (by simp) fun h8 st => ?_
      simp only [List.set_cons_zero, List.set_cons_succ] at st
      have hlt : 0 < (modelsF v cs).length := hlt
      cases hm : modelsF v cs with
      | nil => rw [hm] at hlt; simp at hlt
      | cons m r =>
        refine hjump _ _ _ ⟨rfl, m, r, x, hm, ?_⟩ st
        show _ = _
        simp only [modGf, hm]; rfl
    · rintro pre Bs h6 hfin ⟨rfl, rfl⟩ st
      have hfin : 0 = (modelsF v cs).length := hfin
      have hm : modelsF v cs = [] := List.eq_nil_of_length_eq_zero hfin.symm
      rw [hm] at ef
      exact none_ rfl rfl rfl (fun h' st => done (m := []) (s' := ⟨none, 0, 0⟩) ef (st.nil ty_bool Ty.bool.enc none)) st
    · rintro Bs h6 ⟨_, m, r, s', hm, rfl⟩ st
      rw [hm] at ef
      exact done ef st

end Go.Proofs.S
