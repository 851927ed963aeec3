/-
  The reference of rat: Repair, Join, Split, named; repairs.
-/
import Derived.Test.YtjkgncibelojnaaGreatRaW
set_option linter.unusedVariables false
set_option linter.unusedSimpArgs false
namespace Go.Sx
open Go
section
variable {xs : List tPr.T} {s p : Sl} {fr : Fr} {G As : List Asn} {h : Heap} {t : TypeId} {b : Nat}
theorem Hs.prA {K : Addr → HP} (st : Hs fr G As h) (k : Nat) (hk : As[k]? = some (osn t 2 tPr.vals xs s)) {i : Nat} (hi : i < xs.length)
    (hK : ∀ b, s.a = some ⟨b, 0, none⟩ → K ⟨b, i * 2, none⟩ h) : sx s.a s.len (i : Int) 2 K h := by
  obtain ⟨S1, p, hwr⟩ := st.focus k hk
  rcases p with ⟨b, rest, cap, eS, es, hr, hb⟩ | ⟨_, ex, _⟩
  · subst es
    refine ⟨_, rfl, Int.natCast_nonneg _, Int.ofNat_lt.2 hi, ?_⟩
    rw [Int.toNat_natCast]
    simp only [addr_add, Nat.zero_add]
    exact hK b rfl
  · subst ex; simp at hi
end
end Go.Sx
namespace Go.Proofs.S
open Go Go.Sx Go.Proofs Go.Cl Go.Rp Go.Rt
variable {h h0 : Heap} {c d A f ids hs W : List Int} {l : List Ent} {cs : List (List Int)} {gs us vs : List Grp} {s s2 s3 s4 sc sl sh sg sx1 sx2 sl2 sh2 sg2 sa sr : Sl} {fr : Fr} {G As : List Asn} {id p n : Int} {i k : Nat} {b m b0 b1 bs : Nat}
theorem fixM_take (hlt : i < A.length) : (A.take (i + 1)).map (fun x => if x = -p then p else x) = (A.take i).map (fun x => if x = -p then p else x) ++ [if A[i] = -p then p else A[i]] := by
  rw [take_lt hlt, List.map_append, List.map_singleton]
theorem fixP_eq : fixP p A = A.map (fun x => if x = -p then p else x) ++ (if -p ∈ A then [] else [p]) := by
  unfold fixP
  by_cases hm : -p ∈ A
  · rw [if_pos hm, if_pos hm, List.append_nil]
  · rw [if_neg hm, if_neg hm]
    congr 1
    refine ((List.map_congr_left fun x hx => ?_).trans (List.map_id A)).symm
    rw [if_neg (show ¬ x = -p from fun e => hm (e ▸ hx))]; rfl
theorem repair_len : (repairP c A).1.length ≤ A.length + 1 := by
  unfold repairP
  split
  · simp
  split
  · simp
  cases c with
  | nil => simp
  | cons p r =>
    simp only
    split
    · simp
    · rcases fix_len p A with ⟨_, k⟩ | ⟨_, k⟩ <;> simp only [k] <;> omega
set_option maxHeartbeats 1000000 in
theorem r9_Repair_c (hA : At h (li c s)) (hB : At h (li A s2)) (hl : c.length ≤ 1048576) (hl2 : A.length ≤ 1048576) :
    callT Tryz.prog fn_salvorref09_Repair #[.slice s.a s.len s.cap, .slice s2.a s2.len s2.cap] (.tup (.cons .sl (.cons (.int .i64) .nil)))
      (fun r h' => ∃ s', r = (s', (repairP c A).2, ()) ∧ New h.size h' (nio' (repairP c A).1 s') ∧ Ext [] h h') h := by
  refine callT_gen fun K hK => S_salvorref09_Repair (a0 := s) (a1 := s2) K ?_
  unfold F_salvorref09_Repair
  have hK : ∀ s' (o : List Int) (e : Int) h', repairP c A = (o, e) → New h.size h' (nio' o s') → Ext [] h h' → K (s', e, ()) h' := fun s' o e h' he n x => hK _ _ ⟨s', by rw [he], by rw [he]; exact n, x⟩
  have st := Hs.start h [li c s, li A s2] (by simp [hA, hB])
  have lc := rsl_len hA
  have lA := rsl_len hB
  have no : ∀ e h', repairP c A = ([], e) → Ext [] h h' → K (⟨none, 0, 0⟩, e, ()) h' := fun e h' he x => hK _ _ _ _ he (osl_nil h.size h') x
  unfold repairP at hK no
  refine call_of (r2_right_c (st.fz 0 rfl) (by omega)) ?_
  rintro _ _ ⟨rfl, e⟩; rw [e]; clear e
  cases hr : rightC c with
  | false => rw [hr] at no; exact brT rfl (no _ _ rfl (st.frame (by simp)))
  | true =>
  refine brF rfl ?_
  refine call_of (r8_right_c (st.fz 1 rfl) (by omega)) ?_
  rintro _ _ ⟨rfl, e⟩; rw [e]; clear e
  cases ho : okA A with
  | false => rw [hr, ho] at no; exact brT rfl (no _ _ rfl (st.frame (by simp)))
  | true =>
  rw [hr, ho] at hK no
  refine brF rfl ?_
  simp only [Bool.not_true, Bool.false_eq_true, if_false] at hK no ⊢
  cases c with
  | nil => exact brT (by rw [lc]; rfl) (no _ _ rfl (st.frame (by simp)))
  | cons p r =>
  refine brF (by rw [lc]; simp; omega) ?_
  have hp : rt p = true := rightC_rt hr p (by simp)
  simp only at hK no
  refine call_of (r8_look_c (st.fz 0 rfl) (st.fz 1 rfl) (rightC_rt hr) (by omega) (by omega)) ?_
  rintro _ h2 ⟨rfl, x2⟩
  have st := st.ext x2
  by_cases h1 : (lookP A (p :: r)).1 = 1
  · refine brT (by simpa using h1) ?_
    rw [if_pos h1] at hK
    refine copy_c st (st.fz 1 rfl) (by omega) fun s' h2 st => ?_
    exact hK _ _ _ _ rfl (st.res (by simp) 0 rfl) (st.frame (by simp))
  refine brF (by simpa using h1) ?_
  rw [if_neg h1] at hK
  have st := st.nil ty_int i64.enc none
  simp only [List.nil_append] at st
  refine lfp_invh (I := fun m σ h' => ∃ (i : Nat) (so : Sl), σ = ((i : Int), decide (-p ∈ A.take i), so, ()) ∧ i ≤ A.length ∧ Hs [([], h)] [li (p :: r) s, li A s2] [nio' ((A.take i).map (fun x => if x = -p then p else x)) so] h' ∧ m = A.length - i)
    ⟨_, 0, ⟨none, 0, 0⟩, by simp, by omega, by simpa using st, rfl⟩ ?_
  clear st
  rintro m σ h3 X ⟨i, so, rfl, hi, st, rfl⟩ hX
  simp only
  by_cases hlt : i < A.length
  · refine brT (by rw [lA]; exact dlt_t hlt) ?_
    refine rdE (τ := i64) (st.fz 1 rfl) hlt ?_
    refine rdE (τ := i64) (i := 0) (st.fz 0 rfl) (by simp) ?_
    rw [show (p :: r)[0] = p from rfl, negW hp]
    have ft := fixM_take (p := p) hlt
    have fl : ((A.take i).map (fun x => if x = -p then p else x)).length ≤ i := by rw [List.length_map, List.length_take]; omega
    refine jn_in fun J hJ => ?_
    by_cases he : A[i] = -p
    · refine brT (by simpa using he) ?_
      refine rdE (τ := i64) (i := 0) (st.fz 0 rfl) (by simp) ?_
      refine st.nw fun b6 h6 st => ?_
      simp only [List.cons_append, List.nil_append] at st
      refine st.apd (v := p) 0 1 rfl rfl (by decide) rfl (by omega) (by decide) rfl fun s7 h7 st => hJ _ _ ?_
      simp only [List.set_cons_zero, List.set_cons_succ] at st
      rw [inc_i (by omega)]
      refine hX _ _ _ ⟨i + 1, s7, ?_, by omega, ?_, rfl⟩ (by omega)
      · rw [show decide (-p ∈ A.take (i + 1)) = true from decide_eq_true ((mem_take1 hlt).2 (.inr he))]
      · rw [ft, if_pos he]; exact st.drop 1 rfl
    · refine brF (by simpa using he) ?_
      refine rdE (τ := i64) (st.fz 1 rfl) hlt ?_
      refine st.nw fun b6 h6 st => ?_
      simp only [List.cons_append, List.nil_append] at st
      refine st.apd (v := A[i]) 0 1 rfl rfl (by decide) rfl (by omega) (by decide) rfl fun s7 h7 st => hJ _ _ ?_
      simp only [List.set_cons_zero, List.set_cons_succ] at st
      rw [inc_i (by omega)]
      refine hX _ _ _ ⟨i + 1, s7, ?_, by omega, ?_, rfl⟩ (by omega)
      · rw [show decide (-p ∈ A.take (i + 1)) = decide (-p ∈ A.take i) from decide_eq_decide.2 ((mem_take1 hlt).trans ⟨fun k => k.resolve_right he, .inl⟩)]
      · rw [ft, if_neg he]; exact st.drop 1 rfl
  · refine brF (by rw [lA]; exact dlt_f hlt) ?_
    rw [List.take_of_length_le (by omega)] at st ⊢
    rw [fixP_eq] at hK
    refine jn_in fun J hJ => ?_
    by_cases hm : -p ∈ A
    · rw [if_pos hm, List.append_nil] at hK
      refine brF (by rw [decide_eq_true hm]; rfl) (hJ _ _ ?_)
      exact hK _ _ _ _ rfl (st.res (by simp) 0 rfl) (st.frame (by simp))
    · rw [if_neg hm] at hK
      refine brT (by rw [decide_eq_false hm]; rfl) ?_
      refine rdE (τ := i64) (i := 0) (st.fz 0 rfl) (by simp) ?_
      refine st.nw fun b4 h3 st => ?_
      simp only [List.cons_append, List.nil_append] at st
      refine st.apd (v := p) 0 1 rfl rfl (by decide) rfl (by simp; omega) (by decide) rfl fun s7 h4 st => hJ _ _ ?_
      exact hK _ _ _ _ rfl (st.res (by simp) 0 rfl) (st.frame (by simp))
set_option maxHeartbeats 1000000 in
theorem repairs_c (hA : At h (li c s)) (hB : At h (li A s2)) (hl : c.length ≤ 1000) (hl2 : A.length ≤ 1000) :
    callT Tryz.prog fn_salvorlaw09_repairs #[.slice s.a s.len s.cap, .slice s2.a s2.len s2.cap] .bool (fun r h' => r = true ∧ Ext [] h h') h := by
  refine callT_gen fun K hK => S_salvorlaw09_repairs (a0 := s) (a1 := s2) K ?_
  unfold F_salvorlaw09_repairs
  have st := Hs.start h [li c s, li A s2] (by simp [hA, hB])
  refine call_of (Ints_c (st.fz 0 rfl) (by omega)) ?_
  rintro r0 h1 ⟨n0, x1⟩
  have st := (st.new x1 n0).froz 0 rfl
  simp only [List.nil_append, List.cons_append, List.eraseIdx_cons_zero] at st
  refine call_of (Ints_c (st.fz 1 rfl) (by omega)) ?_
  rintro r1 h2 ⟨n1, x2⟩
  have st := (st.new x2 n1).froz 0 rfl
  simp only [List.nil_append, List.cons_append, List.eraseIdx_cons_zero] at st
  refine call_of (Repair_c (st.fz 0 rfl) (st.fz 1 rfl) (by omega) (by omega)) ?_
  rintro _ h3 ⟨s3, rfl, n3, x3⟩
  have st := st.new x3 n3
  simp only [List.nil_append] at st
  have hgl : (repairP c A).1.length ≤ 1001 := by have := repair_len (c := c) (A := A); omega
  refine call_of (r9_Repair_c (st.fz 2 rfl) (st.fz 3 rfl) (by omega) (by omega)) ?_
  rintro _ h4 ⟨s4, rfl, n4, x4⟩
  have st := st.new x4 n4
  simp only [List.cons_append, List.nil_append] at st
  generalize repairP c A = R at *
  obtain ⟨got, er⟩ := R
  simp only at hgl st ⊢
  refine call_of (Ints_c (st.own 0 rfl).rsl (by omega)) ?_
  rintro r4 h5 ⟨n5, x5⟩
  have st := st.new x5 n5
  simp only [List.cons_append, List.nil_append] at st
  refine call_of (equal_int (st.own 2 rfl).rsl (st.own 1 rfl).rsl (by omega)) ?_
  rintro _ h6 ⟨rfl, e⟩; subst e
  refine jn_in fun J hJ => brF (by simp) (hJ _ _ (brF (by simp) ?_))
  clear J hJ
  have st := (st.drop 2 rfl).drop 1 rfl
  simp only [List.eraseIdx_cons_succ, List.eraseIdx_cons_zero] at st
  have lg : s3.len = got.length := osl_len (st.own 0 rfl)
  refine lfp_invh (I := fun m σ h' => ∃ (i : Nat) (g2 : List Int), σ = ((i : Int), ()) ∧ i ≤ got.length ∧ g2.length = got.length ∧ Hs [([], h)] [li c s, li A s2, li c r0, li A r1] [lo g2 s3] h' ∧ m = got.length - i)
    ⟨_, 0, got, rfl, by omega, rfl, st, rfl⟩ ?_
  clear st
  rintro m σ h7 X ⟨i, g2, rfl, hi, hg2, st, rfl⟩ hX
  simp only
  by_cases hlt : i < got.length
  · refine brT (by rw [lg]; exact dlt_t hlt) ?_
    refine st.wrE (τ := i64) 0 rfl (i := i) (by omega) 99 fun h8 st => ?_
    rw [inc_i (by omega)]
    exact hX _ _ _ ⟨i + 1, g2.set i 99, rfl, by omega, by simpa using hg2, st, rfl⟩ (by omega)
  · refine brF (by rw [lg]; exact dlt_f hlt) ?_
    refine call_of (Ints_c (st.fz 0 rfl) (by omega)) ?_
    rintro r11 h8 ⟨n11, x11⟩
    have st := st.ext x11
    refine call_of (equal_int n11.at.rsl (st.fz 2 rfl) (by omega)) ?_
    rintro _ h9 ⟨rfl, e⟩; subst e
    refine jn_in fun J hJ => brT (by simp) ?_
    refine call_of (Ints_c (st.fz 1 rfl) (by omega)) ?_
    rintro r15 h10 ⟨n15, x15⟩
    have st := st.ext x15
    refine call_of (equal_int n15.at.rsl (st.fz 3 rfl) (by omega)) ?_
    rintro _ h11 ⟨rfl, e⟩; subst e
    exact hJ _ _ (hK _ _ ⟨by simp, st.frame (by simp)⟩)
end Go.Proofs.S
namespace Go.Proofs.S
open Go Go.Sx Go.Proofs Go.Cl Go.Rp Go.Rt
variable {h : Heap} {c d A ids : List Int} {l : List Ent} {gs : List Grp} {s s2 sc : Sl} {fr : Fr} {G As : List Asn} {id p : Int} {i : Nat}
set_option maxRecDepth 10000 in
set_option maxHeartbeats 2000000 in
theorem r9_Split_c {xs : List Int} (hA : At h (li xs s)) (hl : xs.length ≤ 1099511627776) :
    callT Tryz.prog fn_salvorref09_Split #[.slice s.a s.len s.cap] (.tup (.cons .sl (.cons .sl (.cons (.int .i64) .nil))))
      (fun r h' => ∃ s1 s2, r = (s1, s2, (Rt.splitP xs).2.2, ()) ∧ New h.size h' (nio' (Rt.splitP xs).1 s1) ∧ New h.size h' (ent (Rt.splitP xs).2.1 s2) ∧ Ext [] h h') h := by
  refine callT_gen fun K hK => S_salvorref09_Split (a0 := s) K ?_
  unfold F_salvorref09_Split
  have st := Hs.start h [li xs s] (by simp [hA])
  have ls := rsl_len hA
  refine lfp_invh (I := fun m σ h' => ∃ (i : Nat) (out lst : List Int) (gs ini : List Grp) (gps ips : List tPr.T) (sO sL sG : Sl) (v : Int) (u1 u2 : Sl), σ = ((i : Int), sG, sO, v, u1, u2, ()) ∧ i ≤ xs.length ∧
      splitGo (xs.drop i) out gs = splitGo xs [] [] ∧ out.length ≤ i ∧ gs.length ≤ i ∧ lst.length ≤ i ∧ ips.map (·.1) = ini.map (·.1) ∧
      ((gs = [] ∧ gps = [] ∧ ini = [] ∧ ips = [] ∧ lst = [] ∧ sL = ⟨none, 0, 0⟩) ∨ ∃ id, gs = ini ++ [(id, lst)] ∧ gps = ips ++ [(id, sL, ())]) ∧
      Hs [([], h)] [li xs s] [osn ty_salvorref09_Group 2 tPr.vals gps sG, inn (fun c p => nio' c p) (ini.map (·.2)) (ips.map (·.2.1)), nio' lst sL, nio' out sO] h' ∧ m = xs.length - i)
    ⟨_, 0, [], [], [], [], [], [], ⟨none, 0, 0⟩, ⟨none, 0, 0⟩, ⟨none, 0, 0⟩, 0, ⟨none, 0, 0⟩, ⟨none, 0, 0⟩, rfl, by omega, rfl, by simp, by simp, by simp, rfl, .inl ⟨rfl, rfl, rfl, rfl, rfl, rfl⟩, ?_, rfl⟩ ?_
  · have st := st.new (A := osn ty_salvorref09_Group 2 tPr.vals [] ⟨none, 0, 0⟩) (Ext.refl' [] h) ⟨[], .inr ⟨rfl, rfl, rfl, rfl⟩, by simp⟩
    have st := st.new (A := inn (fun c p => nio' c p) [] []) (Ext.refl' [] h) ⟨[], rfl, by simp⟩
    exact (st.nil ty_int i64.enc none).nil ty_int i64.enc none
  clear st
  rintro m σ h1 X ⟨i, out, lst, gs, ini, gps, ips, sO, sL, sG, v, u1, u2, rfl, hi, hg, hlo, hlg, hll, hids, hc, st, rfl⟩ hX
  simp only
  have hlen : ips.length = ini.length := by simpa using congrArg List.length hids
  have lgp : gps.length = gs.length := by
    rcases hc with ⟨rfl, rfl, _⟩ | ⟨id, rfl, rfl⟩
    · rfl
    · simp [hlen]
  have lG : sG.len = gps.length := osn_len (st.own 0 rfl)
  by_cases hlt : i < xs.length
  · refine brT (by rw [ls]; exact dlt_t hlt) ?_
    refine rdE (τ := i64) (i := i) (st.fz 0 rfl) hlt ?_
    rw [List.drop_eq_getElem_cons hlt] at hg
    generalize hn : xs[i] = n at *
    have bad : (n = 0 ∨ n > maxID ∨ n < -maxID) → ∀ h', Ext [] h h' → K (⟨none, 0, 0⟩, ⟨none, 0, 0⟩, 91, ()) h' := fun q h' x => by
      rw [splitGo_bad n q] at hg
      have e : Rt.splitP xs = ([], [], 91) := by unfold Rt.splitP; rw [← hg]
      exact hK _ _ ⟨_, _, by rw [e], by rw [e]; exact osl_nil h.size h', by rw [e]; exact rsp_nil _ _ _, x⟩
    refine jn_in fun J hJ => ?_
    by_cases h0 : n = 0
    · refine brT (by simpa using h0) (hJ _ _ ?_)
      clear J hJ
      exact jn_in fun J hJ => brT rfl (hJ _ _ (brT rfl (bad (.inl h0) _ (st.frame (by simp)))))
    refine brF (by simpa using h0) ?_
    by_cases h2 : n > 1073741824
    · rw [decide_eq_true h2]
      refine hJ _ _ ?_
      clear J hJ
      exact jn_in fun J hJ => brT rfl (hJ _ _ (brT rfl (bad (.inr (.inl h2)) _ (st.frame (by simp)))))
    rw [decide_eq_false h2]
    refine hJ _ _ ?_
    clear J hJ
    refine jn_in fun J hJ => brF rfl ?_
    by_cases h3 : n < -1073741824
    · rw [decide_eq_true h3]
      exact hJ _ _ (brT rfl (bad (.inr (.inr h3)) _ (st.frame (by simp))))
    rw [decide_eq_false h3]
    refine hJ _ _ (brF rfl ?_)
    clear J hJ bad
    have hgd : ¬ (n = 0 ∨ n > maxID ∨ n < -maxID) := by unfold maxID; rintro (q | q | q) <;> omega
    refine jn_in fun J hJ => ?_
    by_cases hneg : n < 0
    · refine brT (decide_eq_true hneg) ?_
      rw [show IntKind.wrap .i64 (0 - n) = -n by rw [wrap_i64 (by omega) (by omega)]; omega]
      refine st.nw fun b4 h4 st => ?_
      simp only [List.cons_append, List.nil_append] at st
      refine Hs.apdN (v := ((-n, ⟨none, 0, 0⟩, ()) : tPr.T)) st widePr (by decide) 0 4 rfl rfl (by decide) (fun u hu => by
        have hu : u ∈ [Value.int .i64 (-n), .slice none 0 0] := hu
        simp only [List.mem_cons, List.not_mem_nil, or_false] at hu
        rcases hu with rfl | rfl <;> rfl) (by omega) (by decide) rfl fun s79 h5 st => hJ _ _ ?_
      simp only [List.set_cons_zero, List.set_cons_succ] at st
      have st := st.drop 4 rfl
      simp only [List.eraseIdx_cons_succ, List.eraseIdx_cons_zero] at st
      rw [inc_i (by omega)]
      rw [splitGo_neg hgd hneg] at hg
      rcases hc with ⟨rfl, rfl, rfl, rfl, rfl, rfl⟩ | ⟨id, rfl, rfl⟩
      · exact hX _ _ _ ⟨i + 1, out, [], [(-n, [])], [], [(-n, ⟨none, 0, 0⟩, ())], [], _, ⟨none, 0, 0⟩, _, _, _, _, rfl, by omega, hg, by omega, by simp, by simp, rfl, .inr ⟨-n, rfl, rfl⟩, st, rfl⟩ (by omega)
      · have st := st.move (A' := inn (fun c p => nio' c p) (ini.map (·.2) ++ [lst]) (ips.map (·.2.1) ++ [sL])) 1 2 rfl rfl (by decide) fun S1 S2 h1 h2 hd => Inner.snoc h1 h2
        simp only [List.set_cons_zero, List.set_cons_succ] at st
        have st := st.imp (A' := nio' [] ⟨none, 0, 0⟩) 2 rfl fun S h e => .inr ⟨e, rfl, rfl, rfl⟩
        simp only [List.set_cons_zero, List.set_cons_succ] at st
        refine hX _ _ _ ⟨i + 1, out, [], ini ++ [(id, lst)] ++ [(-n, [])], ini ++ [(id, lst)], ips ++ [(id, sL, ())] ++ [(-n, ⟨none, 0, 0⟩, ())], ips ++ [(id, sL, ())], _, ⟨none, 0, 0⟩, _, _, _, _, rfl, by omega, hg, by omega, by simp at hlg ⊢; omega, by simp, by simp [hids], .inr ⟨-n, rfl, rfl⟩, ?_, rfl⟩ (by omega)
        simp only [List.map_append, List.map_cons, List.map_nil]
        exact st
    · refine brF (decide_eq_false hneg) ?_
      rw [splitGo_pos hgd hneg] at hg
      refine jn_in fun L hL => ?_
      rcases hc with ⟨rfl, rfl, rfl, rfl, rfl, rfl⟩ | ⟨id, rfl, rfl⟩
      · refine brT (by rw [lG]; rfl) ?_
        refine st.nw fun b4 h4 st => ?_
        simp only [List.cons_append, List.nil_append] at st
        refine st.apd (v := n) 3 4 rfl rfl (by decide) rfl (by omega) (by decide) rfl fun s7 h5 st => hL _ _ (hJ _ _ ?_)
        simp only [List.set_cons_zero, List.set_cons_succ] at st
        have st := st.drop 4 rfl
        rw [inc_i (by omega)]
        exact hX _ _ _ ⟨i + 1, out ++ [n], [], [], [], [], [], _, ⟨none, 0, 0⟩, _, _, _, _, rfl, by omega, hg, by simp; omega, by simp, by simp, rfl, .inl ⟨rfl, rfl, rfl, rfl, rfl, rfl⟩, st, rfl⟩ (by omega)
      · have lg2 : ips.length + 1 ≤ i := by simp at hlg lgp; omega
        have ew : IntKind.wrap .i64 ((sG.len : Int) - 1) = ((ips.length : Nat) : Int) := by rw [lG, List.length_append, List.length_singleton, wrap_i64 (by omega) (by omega)]; omega
        rw [ew]
        refine brF (decide_eq_false (show ¬ (((ips.length : Nat) : Int) < 0) by omega)) ?_
        refine st.nw fun b3 h4 st => ?_
        simp only [List.cons_append, List.nil_append] at st
        have st := st.asSl 4 i64.enc [] rfl rfl
        simp only [List.set_cons_zero, List.set_cons_succ] at st
        refine Hs.prF st 0 rfl (i := ips.length) (by simp) fun b hb => ?_
        simp only [List.getElem_append_right (Nat.le_refl _), Nat.sub_self, List.getElem_cons_zero]
        refine Hs.apdS (τ := i64) st 4 rfl (st.own 2 rfl).rsl leaf_int (by simp; omega) (by decide) fun s19 h5 st => ?_
        simp only [List.set_cons_zero, List.set_cons_succ, List.nil_append] at st
        refine st.nw fun b4 h6 st => ?_
        simp only [List.cons_append, List.nil_append] at st
        refine st.apd (v := n) 4 5 rfl rfl (by decide) rfl (by omega) (by decide) rfl fun s7 h7 st => ?_
        simp only [List.set_cons_zero, List.set_cons_succ] at st
        refine Hs.prA st 0 rfl (i := ips.length) (by simp) fun b' hb' => ?_
        refine Hs.prW st 0 rfl (i := ips.length) (by simp) hb' s7 fun h8 st => hL _ _ (hJ _ _ ?_)
        simp only [List.set_cons_zero, List.set_cons_succ] at st
        have st := st.drop 5 rfl
        simp only [List.eraseIdx_cons_succ, List.eraseIdx_cons_zero] at st
        have st := st.moveS (A' := nio' (lst ++ [n]) s7) 2 4 rfl rfl (by decide) fun S1 S2 p1 p2 hd => ⟨S2, p2, fun b hb => .inr hb⟩
        simp only [List.set_cons_zero, List.set_cons_succ] at st
        have st := st.drop 4 rfl
        simp only [List.eraseIdx_cons_succ, List.eraseIdx_cons_zero] at st
        rw [inc_i (by omega)]
        have hput : putHint out (ini ++ [(id, lst)]) n = (out, ini ++ [(id, lst ++ [n])]) := by unfold putHint; simp
        rw [hput] at hg
        refine hX _ _ _ ⟨i + 1, out, lst ++ [n], ini ++ [(id, lst ++ [n])], ini, ips ++ [(id, s7, ())], ips, _, s7, _, _, _, _, rfl, by omega, hg, by omega, by simp at hlg ⊢; omega, by simp; omega, hids, .inr ⟨id, rfl, rfl⟩, ?_, rfl⟩ (by omega)
        have e2 : (ips ++ [(id, sL, ())]).set ips.length (((ips ++ [(id, sL, ())] : List tPr.T)[ips.length]'(by simp)).1, s7, ()) = (ips ++ [(id, s7, ())] : List tPr.T) := by
          rw [List.set_append_right _ _ (Nat.le_refl _), Nat.sub_self]
          simp
        rw [e2] at st
        exact st
  · refine brF (by rw [ls]; exact dlt_f hlt) ?_
    rw [List.drop_eq_nil_of_le (by omega)] at hg
    have hg : some (out, gs) = splitGo xs [] [] := hg
    have e : Rt.splitP xs = (out, gs, 0) := by unfold Rt.splitP; rw [← hg]
    refine hK _ _ ⟨_, _, by rw [e], by rw [e]; exact st.res (by simp) 3 rfl, ?_, st.frame (by simp)⟩
    rw [e]
    rcases hc with ⟨rfl, rfl, rfl, rfl, rfl, rfl⟩ | ⟨id, rfl, rfl⟩
    · exact ent_new (gps := []) (st.res (by simp) 0 rfl) ⟨[], rfl, by simp⟩ rfl
    · have st := st.move (A' := inn (fun c p => nio' c p) (ini.map (·.2) ++ [lst]) (ips.map (·.2.1) ++ [sL])) 1 2 rfl rfl (by decide) fun S1 S2 h1 h2 hd => Inner.snoc h1 h2
      simp only [List.set_cons_zero, List.set_cons_succ] at st
      refine ent_new (gps := ips ++ [(id, sL, ())]) (st.res (by simp) 0 rfl) ?_ (by simp [hids])
      simp only [List.map_append, List.map_cons, List.map_nil]
      exact st.res (by simp) 1 rfl
theorem bad_hint {x : Int} (hx : x ∈ ids) (hb : goodID x = false) : joinP ids gs = ([], 91) := join_bad (by
  unfold joinOk
  rw [Bool.and_eq_false_iff]; left
  rw [List.all_eq_false]; exact ⟨x, hx, by rw [hb]; simp⟩)
theorem bad_id {g : Grp} (hg : g ∈ gs) (hb : goodID g.1 = false) : joinP ids gs = ([], 91) := join_bad (by
  unfold joinOk
  rw [Bool.and_eq_false_iff]; right
  rw [List.all_eq_false]; exact ⟨g, hg, by rw [hb]; simp⟩)
theorem bad_sub {g : Grp} {x : Int} (hg : g ∈ gs) (hx : x ∈ g.2) (hb : goodID x = false) : joinP ids gs = ([], 91) := join_bad (by
  unfold joinOk
  rw [Bool.and_eq_false_iff]; right
  rw [List.all_eq_false]; exact ⟨g, hg, by
    have : g.2.all goodID = false := by rw [List.all_eq_false]; exact ⟨x, hx, by rw [hb]; simp⟩
    rw [this]; simp⟩)
theorem good_jn {x : Int} {A : Bool → HP} (Y : (Bool → HP) → HP) (h1 : x < 1 → A true h) (h2 : ¬ x < 1 → ∀ J : Bool → HP, (J (decide (x > 1073741824)) h → Y J h)) (hA : A (!goodID x) h) :
    jn (σ := Bool) (fun t => A t) (fun J => brB (decide (x < 1)) (J true) (Y J)) h := by
  refine jn_in fun J hJ => ?_
  rw [← badID_not] at hA
  unfold badID at hA
  by_cases q : x < 1
  · exact brT (decide_eq_true q) (hJ _ _ (h1 q))
  · refine brF (decide_eq_false q) (h2 q J (hJ _ _ ?_))
    rw [decide_eq_false q, Bool.false_or] at hA
    exact hA
theorem textOf_snoc (g : Grp) : textOf ids (gs ++ [g]) = textOf ids gs ++ [-g.1] ++ g.2 := by simp [textOf]
set_option maxRecDepth 10000 in
set_option maxHeartbeats 1000000 in
theorem r9_Join_c (hA : At h (li ids s)) (hG : At h (ent gs s2)) (hl : ids.length ≤ 100000) (hgl : gs.length ≤ 100000) (hh : ∀ g ∈ gs, g.2.length ≤ 100000) :
    callT Tryz.prog fn_salvorref09_Join #[.slice s.a s.len s.cap, .slice s2.a s2.len s2.cap] (.tup (.cons .sl (.cons (.int .i64) .nil)))
      (fun r h' => ∃ s', r = (s', (joinP ids gs).2, ()) ∧ New h.size h' (nio' (joinP ids gs).1 s') ∧ Ext [] h h') h := by
  refine callT_gen fun K hK => S_salvorref09_Join (a0 := s) (a1 := s2) K ?_
  unfold F_salvorref09_Join
  have hK : ∀ s' (o : List Int) (e : Int) h', joinP ids gs = (o, e) → New h.size h' (nio' o s') → Ext [] h h' → K (s', e, ()) h' := fun s' o e h' he n x => hK _ _ ⟨s', by rw [he], by rw [he]; exact n, x⟩
  have bad : ∀ h', joinP ids gs = ([], 91) → Ext [] h h' → K (⟨none, 0, 0⟩, 91, ()) h' := fun h' he x => hK _ _ _ _ he (osl_nil h.size h') x
  have ls := rsl_len hA
  have lg := rsp_len hG
  have st := (Hs.start h [li ids s, ent gs s2] (by simp [hA, hG])).nil ty_int i64.enc none
  simp only [List.nil_append] at st
  refine lfp_invh (I := fun m σ h' => ∃ (i : Nat) (so : Sl) (u1 : Int) (u2 : Sl), σ = ((i : Int), so, u1, u2, ()) ∧ i ≤ ids.length ∧ (∀ x ∈ ids.take i, goodID x = true) ∧ Hs [([], h)] [li ids s, ent gs s2] [nio' (ids.take i) so] h' ∧ m = ids.length - i)
    ⟨_, 0, ⟨none, 0, 0⟩, _, _, rfl, by omega, by simp, st, rfl⟩ ?_
  clear st
  rintro m σ h1 X ⟨i, so, u1, u2, rfl, hi, hgood, st, rfl⟩ hX
  simp only
  by_cases hlt : i < ids.length
  · refine brT (by rw [ls]; exact dlt_t hlt) ?_
    refine rdE (τ := i64) (st.fz 0 rfl) hlt ?_
    refine good_jn _ (fun q => ?_) (fun q J hJ => rdE (τ := i64) (st.fz 0 rfl) hlt hJ) ?_
    · exact brT rfl (bad _ (bad_hint (List.getElem_mem hlt) (by rw [← Bool.not_eq_true', ← badID_not]; unfold badID; simp [q])) (st.frame (by simp)))
    · cases hg : goodID ids[i] with
      | false => exact brT rfl (bad _ (bad_hint (List.getElem_mem hlt) hg) (st.frame (by simp)))
      | true =>
        refine brF rfl ?_
        refine rdE (τ := i64) (st.fz 0 rfl) hlt ?_
        refine st.nw fun b6 h6 st => ?_
        simp only [List.cons_append, List.nil_append] at st
        refine st.apd (v := ids[i]) 0 1 rfl rfl (by decide) rfl (by rw [List.length_take]; omega) (by decide) rfl fun s7 h7 st => ?_
        simp only [List.set_cons_zero, List.set_cons_succ] at st
        rw [inc_i (by omega)]
        refine hX _ _ _ ⟨i + 1, s7, _, _, rfl, by omega, fun x hx => ?_, ?_, rfl⟩ (by omega)
        · rw [take_lt hlt] at hx
          rcases List.mem_append.1 hx with hx | hx
          · exact hgood x hx
          · simp only [List.mem_singleton] at hx; subst hx; exact hg
        · rw [take_lt hlt]; exact st.drop 1 rfl
  refine brF (by rw [ls]; exact dlt_f hlt) ?_
  clear hX
  rw [List.take_of_length_le (by omega)] at st hgood
  have tl : ∀ k, k ≤ gs.length → (textOf ids (gs.take k)).length ≤ 100000 + 100000 * 100001 := fun k hk => by
    have h1 := joinN_len (ids := ids) (gs := gs.take k) fun g hg => hh g (List.mem_of_mem_take hg)
    have h4 : (gs.take k).length ≤ 100000 := by rw [List.length_take]; omega
    have h5 := Nat.mul_le_mul_right 100001 h4
    have h6 : (textOf ids (gs.take k)).length = (joinN ids (gs.take k)).length := by
      unfold textOf joinN
      simp only [List.length_append]
      congr 1
      generalize gs.take k = us
      induction us with
      | nil => rfl
      | cons g us ih => simp only [List.flatMap_cons, List.length_append, List.length_cons, ih]
    omega
  refine lfp_invh (I := fun m σ h' => ∃ (i : Nat) (so : Sl) (u1 : Int) (u2 : Sl), σ = ((i : Int), so, u1, u2, ()) ∧ i ≤ gs.length ∧ (∀ g ∈ gs.take i, goodID g.1 = true ∧ ∀ x ∈ g.2, goodID x = true) ∧ Hs [([], h)] [li ids s, ent gs s2] [nio' (textOf ids (gs.take i)) so] h' ∧ m = gs.length - i)
    ⟨_, 0, so, _, _, rfl, by omega, by simp, by simpa [textOf] using st, rfl⟩ ?_
  clear st
  rintro m σ h2 X ⟨i, so, v1, v2, rfl, hi, hgg, st, rfl⟩ hX
  simp only
  have tli := tl i hi
  by_cases hlt : i < gs.length
  rotate_left
  · refine brF (by rw [lg]; exact dlt_f hlt) ?_
    rw [List.take_of_length_le (by omega)] at st hgg
    refine hK _ _ _ _ ?_ (st.res (by simp) 0 rfl) (st.frame (by simp))
    unfold joinP
    rw [if_pos]
    unfold joinOk
    rw [Bool.and_eq_true, List.all_eq_true, List.all_eq_true]
    exact ⟨hgood, fun g hg => by rw [Bool.and_eq_true, List.all_eq_true]; exact hgg g hg⟩
  refine brT (by rw [lg]; exact dlt_t hlt) ?_
  refine rdPri (st.fz 1 rfl) hlt ?_
  refine good_jn _ (fun q => ?_) (fun q J hJ => rdPri (st.fz 1 rfl) hlt hJ) ?_
  · exact brT rfl (bad _ (bad_id (List.getElem_mem hlt) (by rw [← Bool.not_eq_true', ← badID_not]; unfold badID; simp [q])) (st.frame (by simp)))
  cases hg : goodID gs[i].1 with
  | false => exact brT rfl (bad _ (bad_id (List.getElem_mem hlt) hg) (st.frame (by simp)))
  | true =>
  refine brF rfl ?_
  refine rdPri (st.fz 1 rfl) hlt ?_
  have hgi := goodID_iff.1 hg
  unfold maxID at hgi
  rw [show IntKind.wrap .i64 (0 - gs[i].1) = -gs[i].1 by rw [wrap_i64 (by omega) (by omega)]; omega]
  refine st.nw fun b20 h3 st => ?_
  simp only [List.cons_append, List.nil_append] at st
  refine st.apd (v := -gs[i].1) 0 1 rfl rfl (by decide) rfl (by omega) (by decide) rfl fun s21 h4 st => ?_
  simp only [List.set_cons_zero, List.set_cons_succ] at st
  have st := st.drop 1 rfl
  simp only [List.eraseIdx_cons_succ, List.eraseIdx_cons_zero] at st
  have hgl2 := hh _ (List.getElem_mem hlt)
  refine lfp_invh (I := fun m σ h' => ∃ (k : Nat) (so : Sl) (u1 : Int) (u2 : Sl), σ = ((k : Int), so, u1, u2, ()) ∧ k ≤ gs[i].2.length ∧ (∀ x ∈ gs[i].2.take k, goodID x = true) ∧ Hs [([], h)] [li ids s, ent gs s2] [nio' (textOf ids (gs.take i) ++ [-gs[i].1] ++ gs[i].2.take k) so] h' ∧ m = gs[i].2.length - k)
    ⟨_, 0, s21, _, _, rfl, by omega, by simp, by simpa using st, rfl⟩ ?_
  clear st
  rintro m σ h5 Y ⟨k, so, w1, w2, rfl, hk, hgk, st, rfl⟩ hY
  simp only
  refine rdPrs (st.fz 1 rfl) hlt fun q hq => ?_
  have lq := rsl_len hq
  by_cases hkl : k < gs[i].2.length
  rotate_left
  · refine brF (by rw [lq]; exact dlt_f hkl) ?_
    rw [List.take_of_length_le (show gs[i].2.length ≤ k by omega)] at st hgk
    rw [inc_i (by omega)]
    refine hX _ _ _ ⟨i + 1, so, _, _, rfl, by omega, fun g hg' => ?_, ?_, rfl⟩ (by omega)
    · rw [take_lt hlt] at hg'
      rcases List.mem_append.1 hg' with hx | hx
      · exact hgg g hx
      · simp only [List.mem_singleton] at hx; subst hx; exact ⟨hg, hgk⟩
    · rw [take_lt hlt, textOf_snoc]; exact st
  refine brT (by rw [lq]; exact dlt_t hkl) ?_
  refine rdPrs (st.fz 1 rfl) hlt fun q2 hq2 => ?_
  refine rdE (τ := i64) hq2 hkl ?_
  refine good_jn _ (fun q => ?_) (fun q J hJ => rdPrs (st.fz 1 rfl) hlt fun q3 hq3 => rdE (τ := i64) hq3 hkl hJ) ?_
  · exact brT rfl (bad _ (bad_sub (List.getElem_mem hlt) (List.getElem_mem hkl) (by rw [← Bool.not_eq_true', ← badID_not]; unfold badID; simp [q])) (st.frame (by simp)))
  cases hgx : goodID gs[i].2[k] with
  | false => exact brT rfl (bad _ (bad_sub (List.getElem_mem hlt) (List.getElem_mem hkl) hgx) (st.frame (by simp)))
  | true =>
  refine brF rfl ?_
  refine rdPrs (st.fz 1 rfl) hlt fun q4 hq4 => ?_
  refine rdE (τ := i64) hq4 hkl ?_
  refine st.nw fun b36 h6 st => ?_
  simp only [List.cons_append, List.nil_append] at st
  refine st.apd (v := gs[i].2[k]) 0 1 rfl rfl (by decide) rfl (by simp only [List.length_append, List.length_singleton, List.length_take]; omega) (by decide) rfl fun s37 h7 st => ?_
  simp only [List.set_cons_zero, List.set_cons_succ] at st
  rw [inc_i (by omega)]
  refine hY _ _ _ ⟨k + 1, s37, _, _, rfl, by omega, fun x hx => ?_, ?_, rfl⟩ (by omega)
  · rw [take_lt hkl] at hx
    rcases List.mem_append.1 hx with hx | hx
    · exact hgk x hx
    · simp only [List.mem_singleton] at hx; subst hx; exact hgx
  · rw [take_lt hkl, ← List.append_assoc]; exact st.drop 1 rfl
end Go.Proofs.S
