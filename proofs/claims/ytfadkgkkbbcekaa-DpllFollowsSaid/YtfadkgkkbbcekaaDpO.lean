/-
  DpllUnderIs: what it needs of literals that clash.
-/
import Derived.Test.YtfadkgkkbbcekaaDpM
import Derived.Test.YtfadkgkkbbcekaaDpS
import Derived.Test.YtfadkgkkbbcekaaFoO
set_option linter.unusedVariables false
set_option linter.unusedSimpArgs false
namespace Go.Proofs.S
open Go Go.Sx Go.Proofs Go.Cl Go.Dp

variable {h : Heap} {l cs : List (List Int)} {s : Sl} {c : List Int}

theorem modelGo_err {n : Int} : ∀ (l : List Int) (out set : List Bool), (∀ x ∈ l, beyP n x = false) → (modelGo n out set l).2 = 0 ∨ (modelGo n out set l).2 = 52
  | [], out, set, _ => .inl rfl
  | x :: l, out, set, h => by
    rw [modelGo_cons, if_neg (by simp [h x (by simp)])]
    split
    · exact .inr rfl
    · exact modelGo_err l _ _ fun y hy => h y (by simp [hy])
theorem asg_made (h : alwaysC (madeP c) = false) : Asg 8 (madeP c) := by
  have hg := madeP_good c
  refine ⟨fun x hx => bey_iffL.1 (hg.2 x hx), fun x hx h2 => ?_⟩
  unfold alwaysC at h
  rw [List.any_eq_false] at h
  exact h x hx (by simpa using h2)
theorem clash_made (h : alwaysC (madeP c) = true) : (modelF 8 (madeP c)).2 = 52 := by
  have hg := madeP_good c
  have hne : (modelF 8 (madeP c)).2 ≠ 0 := fun q => by
    obtain ⟨_, _, hA⟩ := modelF_asg.1 q
    unfold alwaysC at h
    obtain ⟨x, hx, h2⟩ := List.any_eq_true.1 h
    exact hA.cons x hx (by simpa using h2)
  have := modelGo_err (n := 8) (madeP c) (List.replicate 8 false) (List.replicate 8 false) hg.2
  have e : modelF 8 (madeP c) = modelGo 8 (List.replicate 8 false) (List.replicate 8 false) (madeP c) := rfl
  rw [← e] at this
  exact this.resolve_left hne
abbrev unitsF (l : List (List Int)) (c : List Int) : List (List Int) := madeF l ++ (madeP c).map fun x => [x]
theorem good_units (l : List (List Int)) (c : List Int) : GoodF 8 (unitsF l c) := by
  have h1 := good8 l
  have h2 := madeF_len l
  have hg := madeP_good c
  have hl : (madeP c).length ≤ 20 := by unfold madeP; simp; omega
  refine ⟨by rfl, by simp; omega, fun d hd => ?_⟩
  rcases List.mem_append.1 hd with q | q
  · exact h1.2.2 d q
  · obtain ⟨x, hx, rfl⟩ := List.mem_map.1 q
    have hb := hg.2 x hx
    refine ⟨?_, fun y hy => by simp at hy; subst hy; exact hb⟩
    unfold rightC
    simp [(bey_iffL.1 hb).1]
theorem units_none (h : alwaysC (madeP c) = true) : under 8 (unitsF l c) [] = [] := by
  unfold alwaysC at h
  obtain ⟨x, hx, h2⟩ := List.any_eq_true.1 h
  have h2 : -x ∈ madeP c := by simpa using h2
  have hr := (bey_iffL.1 ((madeP_good c).2 x hx)).1
  refine List.filter_eq_nil_iff.2 fun m _ => ?_
  rw [List.all_nil, Bool.true_and, Bool.not_eq_true, Bool.eq_false_iff]
  intro hh
  have k := fun y (hy : y ∈ madeP c) => List.all_eq_true.1 hh [y] (List.mem_append.2 (.inr (List.mem_map.2 ⟨y, hy, rfl⟩)))
  have k1 := k x hx
  have k2 := k (-x) h2
  simp only [List.any_cons, List.any_nil, Bool.or_false] at k1 k2
  rw [Fo.tru_neg hr, k1] at k2
  cases k2

end Go.Proofs.S

set_option linter.unusedVariables false
set_option linter.unusedSimpArgs false
namespace Go.Proofs.S
open Go Go.Sx Go.Proofs Go.Cl Go.Dp

variable {h : Heap} {l cs : List (List Int)} {s s2 : Sl} {c : List Int}

theorem underG {cs : List (List Int)} {n : Nat} (hg : GoodF 8 cs) (hn : n ≤ 16777216) (hA : Asg 8 c) (hle : (Dp.runT n (trace 8 cs 9 c)).2 ≤ n) : underP 8 cs c n = (((Dp.runT n (trace 8 cs 9 c)).1.isSome, (Dp.runT n (trace 8 cs 9 c)).1.getD [], ((Dp.runT n (trace 8 cs 9 c)).2 : Int)), 0) := by
  unfold underP
  have hw : wrongP 8 cs n = 0 := by
    unfold wrongP
    rw [if_neg (by simp [check_good.2 hg]), if_neg (by omega)]
  rw [if_neg (by simp [hw]), if_neg (by simp [(modelF_asg (n := 8) (c := c)).2 ⟨by decide, by decide, hA⟩])]
  simp only [Int.toNat_natCast, show Int.toNat 8 = 8 from rfl]
  rw [if_neg (show ¬ (((Dp.runT n (trace 8 cs 9 c)).2 : Nat) : Int) > n by omega)]

set_option maxHeartbeats 1000000 in
theorem dpllUnderIs_F (hA : At h (llu l s)) (hu : ∀ c ∈ l, U8 c) (hB : At h (lu c s2)) (hc : U8 c) (K : Bool → HP) (hK : ∀ x h', (x = true ∧ Ext [] h h') → K x h') : F_salvorlaw19_DpllUnderIs s s2 K h := by
  unfold F_salvorlaw19_DpllUnderIs
  have st := Hs.start h [llu l s, lu c s2] (by simp [hA, hB])
  have hlen := good_len (good8 l)
  have hlen2 := good_len (good_units l c)
  have hmp : (madeP c).length ≤ 20 := by unfold madeP; simp; omega
  have hml := madeF_len l
  refine call_of (lawMade_c (st.fz 0 rfl) hu) ?_
  rintro _ h2 ⟨s', rfl, hn2, x2⟩
  have st := Hs.fzl (st.new x2 hn2)
  refine call_of (made_c (st.fz 1 rfl) hc) ?_
  rintro sm h3 ⟨hn3, x3⟩
  have st := Hs.fzl (st.new x3 hn3)
  refine Hs.frml st fun b2 h4 st => ?_
  simp only [List.cons_append, List.nil_append] at st
  refine ldF (st.fblk 4 rfl) ?_
  refine call_of (copy_c (llo_at (st.fz 2 rfl)) hlen.1 hlen.2) ?_
  rintro _ h5 ⟨s4, rfl, hn5, x5⟩
  have st := st.new x5 hn5
  refine st.nw fun b5 h6 st => ?_
  simp only [List.cons_append, List.nil_append, addr_add, Nat.zero_add] at st ⊢
  refine st.st1 1 0 rfl (by simp) fun h7 st => ?_
  refine st.st1 1 1 rfl (by simp) fun h8 st => ?_
  simp only [List.set_cons_zero, List.set_cons_succ] at st
  have lsm := osl_len (st.fz 3 rfl)
  refine lfp_invh (I := fun m σ h' => ∃ (i : Nat) (sg : Sl), σ = ((i : Int), ()) ∧ i ≤ (madeP c).length ∧ Hs [([], h)] [llu l s, lu c s2, llo (madeF l) s', lo (madeP c) sm, cl b2 ty_formula_Formula [.int .i64 8, .slice s'.a s'.len s'.cap]]
      [llo (madeF l ++ ((madeP c).take i).map fun x => [x]) sg, cl b5 ty_formula_Formula [.int .i64 8, .slice sg.a sg.len sg.cap]] h' ∧ m = (madeP c).length - i)
    ⟨_, 0, s4, rfl, by omega, by rw [List.take_zero, List.map_nil, List.append_nil]; exact st, rfl⟩ ?_
  clear st
  rintro m σ h9 X ⟨i, sg, rfl, hi, st, rfl⟩ hX
  simp only
  by_cases hlt : i < (madeP c).length
  · rw [decide_eq_true (show (i : Int) < (sm.len : Int) by omega), brB_true, inc_i (show i < 4611686018427387904 by omega)]
    refine rd_ok (τ := i64) (st.fz 3 rfl).rsl (List.getElem?_eq_getElem hlt) ?_
    rw [st.lds 1 1 rfl rfl]
    refine st.nw fun b11 h10 st => ?_
    have st := st.asSl 2 i64.enc [(madeP c)[i]] rfl rfl
    refine st.nw fun b12 h11 st => ?_
    simp only [List.cons_append, List.nil_append, List.set_cons_zero, List.set_cons_succ] at st
    refine Hs.apdG (I := fun c p => lo c p) (x := [(madeP c)[i]]) (p := ⟨some ⟨b11, 0, none⟩, 1, 1⟩) st 0 3 2 rfl rfl rfl (by decide) (by decide) (by simp; omega) (by decide) rfl fun s12 h12 st => ?_
    refine st.st1 1 1 rfl (by simp) fun h13 st => ?_
    have st := (st.drop 3 rfl).drop 2 rfl
    refine hX _ _ _ ⟨i + 1, s12, rfl, by omega, ?_, rfl⟩ (by omega)
    rw [take_succ_getE hlt, List.map_append, ← List.append_assoc]
    exact st
  rw [decide_eq_false (show ¬ (i : Int) < (sm.len : Int) by omega), brB_false]
  rw [List.take_of_length_le (by omega)] at st
  clear hX
  have gu := good_units l c
  have hA0 : Asg 8 [] := Asg.nil
  have hng : ∀ {cs : List (List Int)} {d : List Int}, GoodF 8 cs → ng (trace 8 cs 9 d) ≤ 1000 := fun {cs d} hg => by
    have h1 := trace_guesses (v := 8) (inv_good hg) (by decide) 9 d
    have h2 := freeN_le (v := 8) (L := d)
    have h3 : 2 ^ (freeN 8 d + 1) ≤ 2 ^ 9 := Nat.pow_le_pow_right (by decide) (by omega)
    have e : (2 : Nat) ^ 9 = 512 := by decide
    omega
  have u2 := underG (c := []) (n := 1000) gu (by decide) hA0 (Nat.le_trans (run_le _ _).2 (hng gu))
  refine ldF (st.fblk 4 rfl) ?_
  refine call_of (under_c (n := 8) (fu := 1000) (llo_at (st.fz 2 rfl)) (st.fz 3 rfl).rsl hlen.1 hlen.2 (by omega) (fun _ => by decide)) ?_
  rintro _ h10 ⟨s15, rfl, n15, x15⟩
  have st := Hs.fzl (st.new x15 n15)
  refine Hs.ans st fun b16 h11 st => ?_
  simp only [List.cons_append, List.nil_append, addr_add, Nat.zero_add] at st ⊢
  refine ldF (st.blk 1 rfl) ?_
  refine call_of (solve_c (n := 8) (fu := ((1000 : Nat) : Int)) (llo_at (st.own 0 rfl)) hlen2.1 hlen2.2 (fun _ => by decide)) ?_
  rw [u2]
  rintro _ h12 ⟨s18, rfl, n18, x18⟩
  have st := Hs.fzl (st.new x18 n18)
  refine Hs.ans st fun b19 h13 st => ?_
  simp only [List.cons_append, List.nil_append, addr_add, Nat.zero_add] at st ⊢
  refine brF rfl ?_
  refine call_of (always_c (st.fz 3 rfl).rsl) ?_
  rintro _ h14 ⟨rfl, x14⟩
  have st := st.ext x14
  rw [(madeP_good c).1, Bool.true_and]
  cases ha : alwaysC (madeP c) with
  | true =>
    refine brT rfl ?_
    have u1 : underP 8 (madeF l) (madeP c) 1000 = ((false, [], 0), 52) := by
      unfold underP
      rw [if_neg (by simp [wrong8 (l := l) (n := 1000) (by decide) (by decide)]), clash_made ha, if_pos (by decide)]
    rw [u1] at st ⊢
    have e0 : (Dp.runT 1000 (trace 8 (unitsF l c) 9 [])).1 = none := by
      rw [run_enough _ _ (hng gu), trace_mods (inv_good gu) (by decide) 9 [] hA0 (Nat.lt_succ_of_le freeN_le), units_none ha]; rfl
    refine jn_in fun J hJ => brT rfl ?_
    rw [ld_bool (i := 0) (st.fblk 8 rfl) rfl]
    refine hJ _ _ ?_
    clear J hJ
    refine jn_in fun J hJ => brT (by rw [e0]; rfl) ?_
    refine call_of (dawake_c _) ?_
    rintro _ h15 ⟨rfl, x15⟩
    have st := st.ext x15
    exact hJ _ _ (hK _ _ ⟨rfl, st.frame (by simp)⟩)
  | false =>
    refine brF rfl ?_
    have hAs := asg_made ha
    have u1 := underG (c := madeP c) (n := 1000) (good8 l) (by decide) hAs (Nat.le_trans (run_le _ _).2 (hng (good8 l)))
    have et : trace 8 (unitsF l c) 9 [] = trace 8 (madeF l) 9 (madeP c) := trace_under (inv_good (good8 l)) (by decide) hAs
    have hlo := run8_len (l := l) (c := madeP c) hAs (n := 1000) (hng (good8 l))
    have u1 : underP 8 (madeF l) (madeP c) 1000 = _ := u1
    rw [u1] at st ⊢
    rw [et] at st
    refine jn_in fun J hJ => brT rfl ?_
    rw [ld_bool (i := 0) (st.fblk 6 rfl) rfl, ld_bool (i := 0) (st.fblk 8 rfl) rfl]
    refine hJ _ _ ?_
    clear J hJ
    refine jn_in fun J hJ => brT (by simp) ?_
    rw [ld_sl (i := 1) (st.fblk 6 rfl) rfl, ld_sl (i := 1) (st.fblk 8 rfl) rfl]
    refine call_of (equal_bools (st.fz 5 rfl).rsl (st.fz 7 rfl).rsl (Nat.le_trans hlo (by decide))) ?_
    rintro _ h16 ⟨rfl, e⟩; subst e
    refine hJ _ _ ?_
    clear J hJ
    refine jn_in fun J hJ => brT (by simp) ?_
    rw [ld_int (i := 2) (st.fblk 6 rfl) rfl, ld_int (i := 2) (st.fblk 8 rfl) rfl]
    refine hJ _ _ ?_
    clear J hJ
    refine jn_in fun J hJ => brT (by simp) ?_
    refine call_of (dawake_c _) ?_
    rintro _ h15 ⟨rfl, x15⟩
    have st := st.ext x15
    exact hJ _ _ (hK _ _ ⟨rfl, st.frame (by simp)⟩)

end Go.Proofs.S

set_option linter.unusedVariables false
set_option linter.unusedSimpArgs false
namespace Go.Dp
open Go Go.Cl Go.Fo

variable {v : Nat} {L L' M o c out : List Int} {cs us : List (List Int)} {x y : Int} {m : List Bool}

theorem Nw.fresh : ∀ {o L : List Int}, Nw v L o → ∀ i (hi : i < o.length), o[i] ∉ L ∧ -o[i] ∉ L ∧ o[i] ∉ o.take i ∧ -o[i] ∉ o.take i
  | [], L, _, i, hi => by simp at hi
  | x :: o, L, h, 0, hi => by
    have := tv_zero.1 h.1.1
    exact ⟨this.1, this.2, by simp, by simp⟩
  | x :: o, L, h, i + 1, hi => by
    obtain ⟨a, b, c, d⟩ := Nw.fresh h.2 i (Nat.lt_of_succ_lt_succ hi)
    simp only [List.mem_append, List.mem_singleton, not_or] at a b
    simp only [List.getElem_cons_succ, List.take_succ_cons, List.mem_cons, not_or]
    exact ⟨a.1, b.1, ⟨a.2, c⟩, b.2, d⟩

theorem follow_new (hi : InV v cs) (L : List Int) : Nw v L (followP v cs L).1 := (follow_spec hi (v + 1) L).1
theorem Nw.len : ∀ {o L : List Int}, Nw v L o → o.length ≤ v := fun {o L} h => by
  have := freeN_app h
  have := freeN_le (v := v) (L := L)
  omega

theorem follow_idx (hi : InV v cs) (hA : Asg v L) : (followP v cs L).2 = -1 ∨ ∃ j : Nat, ∃ hj : j < cs.length, (followP v cs L).2 = j ∧ ∀ y ∈ cs[j], -y ∈ L ++ (followP v cs L).1 := by
  rcases follow_cases hi L with ⟨h1, h2⟩ | ⟨h1, _⟩
  · refine .inr ?_
    have hA2 := follow_asg hi hA
    rcases look_cases (L := L ++ (followP v cs L).1) (nzI hi) with ⟨j, c, hj, ha, e⟩ | ⟨e, _⟩ | ⟨e, _⟩
    · obtain ⟨hj1, rfl⟩ := List.getElem?_eq_some_iff.1 hj
      exact ⟨j, hj1, by rw [← h2, e], fun y hy => (tv_neg_lt hA2).1 (ha y hy)⟩
    · rw [h2] at e; omega
    · rw [h2] at e; omega
  · exact .inl h1

theorem follow_holds (hi : InV v cs) (hA : Asg v L) (hm : hold cs m = true) (ha : L.all (tru m) = true) : (followP v cs L).2 = -1 ∧ (followP v cs L).1.all (tru m) = true := by
  have ht := follow_true hi (v + 1) L hA hm ha
  refine ⟨?_, ht⟩
  rcases follow_cases hi L with ⟨h1, h2⟩ | ⟨h1, _⟩
  · have := bad_false (m := m) hi (follow_asg hi hA) (by rw [h2]; exact h1) (by rw [List.all_append, ha]; exact ht)
    rw [hm] at this; cases this
  · exact h1

def someGo : List Int → List Int → List Int
  | a, [] => a
  | a, x :: c => someGo (if a.contains (-x) then a else a ++ [x]) c
theorem some_asg : ∀ (c a : List Int), Asg v a → (∀ x ∈ c, rt x = true ∧ varL x ≤ v) → Asg v (someGo a c)
  | [], a, hA, _ => hA
  | x :: c, a, hA, h => by
    unfold someGo
    refine some_asg c _ ?_ fun y hy => h y (by simp [hy])
    split
    · exact hA
    · rename_i hn
      have hn : -x ∉ a := by simpa using hn
      obtain ⟨hr, hv⟩ := h x (by simp)
      have hx := (rt_iff.1 hr).1
      refine ⟨fun y hy => ?_, fun y hy hy2 => ?_⟩
      · rcases List.mem_append.1 hy with k | k
        · exact hA.inV y k
        · simp at k; subst k; exact ⟨hr, hv⟩
      · rcases List.mem_append.1 hy with k | k
        · rcases List.mem_append.1 hy2 with k2 | k2
          · exact hA.cons y k k2
          · simp at k2
            exact hn (by rw [← k2, Int.neg_neg]; exact k)
        · simp at k; subst k
          rcases List.mem_append.1 hy2 with k2 | k2
          · exact hn k2
          · simp at k2; omega
theorem some_take {i : Nat} (hi : i < c.length) (a : List Int) : someGo a (c.take (i + 1)) = if (someGo a (c.take i)).contains (-c[i]) then someGo a (c.take i) else someGo a (c.take i) ++ [c[i]] := by
  have key : ∀ (p : List Int) (a : List Int) (z : Int), someGo a (p ++ [z]) = if (someGo a p).contains (-z) then someGo a p else someGo a p ++ [z] := by
    intro p
    induction p with
    | nil => intro a z; rfl
    | cons x p ih => intro a z; exact ih _ z
  have e : c.take (i + 1) = c.take i ++ [c[i]] := by simp
  rw [e, key]
theorem some_len : ∀ (c a : List Int), (someGo a c).length ≤ a.length + c.length
  | [], a => by simp [someGo]
  | x :: c, a => by
    unfold someGo
    have := some_len c (if a.contains (-x) then a else a ++ [x])
    have h2 : (if a.contains (-x) then a else a ++ [x]).length ≤ a.length + 1 := by split <;> simp
    simp only [List.length_cons]
    omega

def openGo (L : List Int) : List Int → List Int → List Int × Bool
  | out, [] => (out, false)
  | out, y :: c => if y ∈ L then ([], true) else openGo L (if -y ∉ L ∧ y ∉ out then out ++ [y] else out) c
abbrev openP (L c : List Int) : List Int × Bool := openGo L [] c
def lastOf (r : List Int × Bool) : Int × Nat := if r.2 then (0, 2) else match r.1 with
  | [] => (0, 0)
  | [x] => (x, 1)
  | _ => (0, 2)
theorem open_two : ∀ (c : List Int) (x y : Int) (o : List Int), lastOf (openGo L (x :: y :: o) c) = (0, 2)
  | [], x, y, o => rfl
  | z :: c, x, y, o => by
    unfold openGo
    split
    · rfl
    · split
      · exact open_two c x y (o ++ [z])
      · exact open_two c x y o
theorem open_one : ∀ (c : List Int) (x : Int), lastGo L x 1 c = lastOf (openGo L [x] c)
  | [], x => rfl
  | z :: c, x => by
    unfold lastGo openGo
    by_cases h1 : z ∈ L
    · rw [if_pos (tv_pos.2 h1), if_pos h1]; rfl
    · rw [if_neg (fun q => h1 (tv_pos.1 q)), if_neg h1]
      by_cases h2 : tv L z = 0 ∧ z ≠ x
      · rw [if_pos h2, if_pos rfl, if_pos ⟨(tv_zero.1 h2.1).2, by simpa using h2.2⟩]
        exact (open_two c x z []).symm
      · rw [if_neg h2, if_neg (fun q => h2 ⟨tv_zero.2 ⟨h1, q.1⟩, by simpa using q.2⟩)]
        exact open_one c x
theorem last_open : ∀ (c : List Int), (∀ y ∈ c, y ≠ 0) → lastP L c = lastOf (openP L c)
  | [], _ => rfl
  | z :: c, h0 => by
    show lastGo L 0 0 (z :: c) = lastOf (openGo L [] (z :: c))
    unfold lastGo openGo
    by_cases h1 : z ∈ L
    · rw [if_pos (tv_pos.2 h1), if_pos h1]; rfl
    · rw [if_neg (fun q => h1 (tv_pos.1 q)), if_neg h1]
      by_cases h2 : tv L z = 0
      · rw [if_pos ⟨h2, h0 z (by simp)⟩, if_neg (by decide), if_pos ⟨(tv_zero.1 h2).2, by simp⟩]
        exact open_one c z
      · rw [if_neg (fun q => h2 q.1), if_neg (fun q => h2 (tv_zero.2 ⟨h1, q.1⟩))]
        exact last_open c fun y hy => h0 y (by simp [hy])
theorem open_len : ∀ (c out : List Int), (openGo L out c).1.length ≤ out.length + c.length
  | [], out => by simp [openGo]
  | z :: c, out => by
    unfold openGo
    split
    · simp
    · have := open_len c (if -z ∉ L ∧ z ∉ out then out ++ [z] else out)
      have h2 : (if -z ∉ L ∧ z ∉ out then out ++ [z] else out).length ≤ out.length + 1 := by split <;> simp
      simp only [List.length_cons]
      omega

end Go.Dp

set_option linter.unusedVariables false
set_option linter.unusedSimpArgs false
namespace Go.Proofs.S
open Go Go.Sx Go.Proofs Go.Cl Go.Dp

variable {h : Heap} {l cs : List (List Int)} {s s2 : Sl} {c : List Int}

theorem mem_under {v : Nat} {L : List Int} {m : List Bool} : m ∈ under v cs L ↔ m.length = v ∧ L.all (Fo.tru m) = true ∧ Fo.hold cs m = true := by
  unfold under
  rw [List.mem_filter, Cr.mem_allB, Bool.and_eq_true]
theorem mem_modelsT {v : Nat} {m : List Bool} : m ∈ modelsF v cs ↔ m.length = v ∧ Fo.hold cs m = true := by
  rw [mem_models]
  unfold Fo.hold
  rw [List.all_eq_true]
  exact Iff.rfl
theorem ng_good {d : List Int} (hg : GoodF 8 cs) : ng (trace 8 cs 9 d) ≤ 510 := by
  have h1 := trace_guesses (v := 8) (inv_good hg) (by decide) 9 d
  have h2 := freeN_le (v := 8) (L := d)
  have h3 : 2 ^ (freeN 8 d + 1) ≤ 2 ^ 9 := Nat.pow_le_pow_right (by decide) (by omega)
  have e : (2 : Nat) ^ 9 = 512 := by decide
  omega
theorem implied_good (hg : GoodF 8 cs) (hr : rightC c = true) (hb : ∀ x ∈ c, beyP 8 x = false) : impliedP 8 cs c 1000 = ((modelsF 8 cs).all (fun m => c.any (Fo.tru m)), 0) := by
  have hw : wrongP 8 cs 1000 = 0 := by
    unfold wrongP
    rw [if_neg (by simp [check_good.2 hg]), if_neg (by omega)]
  have hgr : ¬ greatP c > 8 := by
    rw [great_gt hr (by omega)]
    rintro ⟨x, hx, q⟩
    have := (bey_iffL.1 (hb x hx)).2
    omega
  unfold impliedP
  rw [if_neg (by simp [hw]), if_neg (by simp [hr]), if_neg hgr]
  have hrt := rightC_rt hr
  have em : c.map negL = c.map (fun x => -x) := List.map_congr_left fun x hx => negL_rt (hrt x hx)
  cases ha : alwaysC c with
  | true =>
    rw [if_pos rfl, Prod.mk.injEq]
    refine ⟨(List.all_eq_true.2 fun m hm => ?_).symm, rfl⟩
    unfold alwaysC at ha
    obtain ⟨x, hx, h2⟩ := List.any_eq_true.1 ha
    have h2 : -x ∈ c := by simpa using h2
    cases ht : Fo.tru m x with
    | true => exact List.any_eq_true.2 ⟨x, hx, ht⟩
    | false => exact List.any_eq_true.2 ⟨-x, h2, by rw [Fo.tru_neg (hrt x hx), ht]; rfl⟩
  | false =>
    rw [if_neg (by simp)]
    have hA : Asg 8 (c.map negL) := by
      rw [em]
      refine ⟨fun x hx => ?_, fun x hx h2 => ?_⟩
      · obtain ⟨y, hy, rfl⟩ := List.mem_map.1 hx
        have hy2 := bey_iffL.1 (hb y hy)
        exact ⟨rt_neg hy2.1, by rw [Fo.varL_neg hy2.1]; exact hy2.2⟩
      · obtain ⟨y, hy, rfl⟩ := List.mem_map.1 hx
        obtain ⟨z, hz, e⟩ := List.mem_map.1 h2
        unfold alwaysC at ha
        rw [List.any_eq_false] at ha
        refine ha y hy ?_
        have : -y = z := by omega
        rw [this]; simpa using hz
    have hn := ng_good (d := c.map negL) hg
    have u := underG (c := c.map negL) (n := 1000) hg (by decide) hA (Nat.le_trans (run_le _ _).2 (by omega))
    have u : underP 8 cs (c.map negL) 1000 = _ := u
    rw [u, run_enough _ _ (by omega), trace_mods (inv_good hg) (by decide) 9 _ hA (Nat.lt_succ_of_le freeN_le)]
    simp only [Prod.mk.injEq, and_true]
    rw [Bool.eq_iff_iff, List.all_eq_true, em]
    have hany : ∀ m : List Bool, (c.map fun x => -x).all (Fo.tru m) = !c.any (Fo.tru m) := by
      intro m
      rw [Bool.eq_iff_iff, Bool.not_eq_true', List.any_eq_false, List.all_eq_true]
      constructor
      · intro q x hx
        have := q (-x) (List.mem_map.2 ⟨x, hx, rfl⟩)
        rw [Fo.tru_neg (hrt x hx)] at this
        simpa using this
      · intro q y hy
        obtain ⟨x, hx, rfl⟩ := List.mem_map.1 hy
        rw [Fo.tru_neg (hrt x hx)]
        simpa using q x hx
    cases e : (under 8 cs (c.map fun x => -x)).head? with
    | none =>
      simp only [Option.isSome_none, Bool.not_false, beq_self_eq_true, Bool.and_self, true_iff]
      intro m hm
      rw [mem_modelsT] at hm
      rw [List.head?_eq_none_iff] at e
      cases hc : c.any (Fo.tru m) with
      | true => rfl
      | false =>
        have : m ∈ under 8 cs (c.map fun x => -x) := mem_under.2 ⟨hm.1, by rw [hany, hc]; rfl, hm.2⟩
        rw [e] at this; cases this
    | some m =>
      have hm := mem_under.1 (List.mem_of_mem_head? e)
      simp only [Option.isSome_some, Bool.not_true, Bool.and_false, Bool.false_eq_true, false_iff]
      intro q
      have := q m (mem_modelsT.2 ⟨hm.1, hm.2.2⟩)
      have h2 := hm.2.1
      rw [hany, this] at h2
      cases h2

end Go.Proofs.S
