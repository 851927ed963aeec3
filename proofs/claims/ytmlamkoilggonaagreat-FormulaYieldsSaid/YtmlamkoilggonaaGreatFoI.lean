/-
  The package formula: Models, Count, First: contracts.
-/
import Derived.Test.YtmlamkoilggonaaGreatFoE
import Derived.Test.YtmlamkoilggonaaGreatClR
import Derived.Test.YtmlamkoilggonaaGreatClD
import Derived.Test.YtmlamkoilggonaaGreatClQ
import Derived.Test.YtmlamkoilggonaaGreatClP
set_option linter.unusedVariables false
set_option linter.unusedSimpArgs false
namespace Go.Proofs.S
open Go Go.Sx Go.Proofs Go.Cl

variable {h : Heap} {c d : List Int} {s s2 : Sl} {fr : Fr} {G As : List Asn} {m : List Bool} {sm : Sl}

theorem good_vars {n : Int} {cs : List (List Int)} (hg : GoodF n cs) : 0 ≤ n ∧ n ≤ 1048576 := by
  have := hg.1
  unfold varsP at this
  simp only [Bool.and_eq_true, decide_eq_true_eq] at this
  exact ⟨this.1, this.2⟩
theorem good_len {n : Int} {cs : List (List Int)} (hg : GoodF n cs) : cs.length ≤ 1048576 ∧ ∀ c ∈ cs, c.length ≤ 1048576 :=
  ⟨by have := hg.2.1; omega, fun c hc => by have := rightC_len (hg.2.2 c hc).1; omega⟩

theorem Hs.Models {n : Int} {cs : List (List Int)} {K : (Value × (Int × Unit)) → HP} (st : Hs fr G As h) (hA : At h (lli cs s))
    (h1 : (checkP n cs).2 ≠ 0 → ∀ h', Hs fr G As h' → Ext [] h h' → K (Value.nilFunc, (checkP n cs).2, ()) h')
    (h2 : (checkP n cs).2 = 0 → n > 16 → ∀ h', Hs fr G As h' → Ext [] h h' → K (Value.nilFunc, 5, ()) h')
    (h3 : ∀ v : Nat, n = v → (checkP n cs).2 = 0 → v ≤ 16 → ∀ b s' h', Hs fr (G ++ [cF b v s', lli cs s']) As h' → K (modV b, 0, ()) h') :
    callT Tryz.prog fn_formula_Models #[.agg #[.int .i64 n, .slice s.a s.len s.cap]] (.tup (.cons .val (.cons (.int .i64) .nil))) K h := by
  refine S_formula_Models (a0 := (n, s, ())) K ?_
  unfold F_formula_Models
  refine st.nwX fun b0 h4 x4 st => ?_
  refine ldF (s := s) (st.blk As.length (lastA _ _)) ?_
  refine call_of (check_c (n := n) (hA.ext x4)) ?_
  rintro _ h5 ⟨rfl, x5⟩
  have st := st.ext x5
  by_cases hc : (checkP n cs).2 = 0
  · simp only
    rw [show ((checkP n cs).2 != 0) = false by simp [hc], brB_false]
    rw [st.ldi As.length 0 (lastA _ _) rfl]
    have hg := check_good.1 hc
    have hv := good_vars hg
    by_cases hn : n > 16
    · rw [decide_eq_true hn, brB_true]
      exact h2 hc hn _ st.dropL (x4.nil_trans x5)
    rw [decide_eq_false hn, brB_false]
    refine ldF (s := s) (st.blk As.length (lastA _ _)) ?_
    refine call_of (copy_c (n := n) ((hA.ext x4).ext x5) (good_len hg).1 (good_len hg).2) ?_
    rintro _ h6 ⟨s5, rfl, n6, x6⟩
    have st := st.dropL.new x6 (llo_lli n6)
    refine st.nw fun b6 h7 st => ?_
    simp only [addr_add, Nat.zero_add]
    refine st.st1 (As ++ [lli cs s5]).length 0 (lastA _ _) (by simp) fun h8 st => ?_
    rw [setL] at st
    refine st.st1 (As ++ [lli cs s5]).length 1 (lastA _ _) (by simp) fun h9 st => ?_
    rw [setL] at st
    have st := st.freeze (As ++ [lli cs s5]).length (lastA _ _)
    rw [List.eraseIdx_append_of_length_le (Nat.le_refl _), Nat.sub_self, List.eraseIdx_cons_zero, List.append_nil] at st
    have st := st.freeze As.length (lastA _ _)
    rw [List.eraseIdx_append_of_length_le (Nat.le_refl _), Nat.sub_self, List.eraseIdx_cons_zero, List.append_nil, List.append_assoc] at st
    obtain ⟨v, rfl⟩ := Int.eq_ofNat_of_zero_le hv.1
    exact h3 v rfl hc (by omega) b6 s5 _ st
  · simp only
    rw [show ((checkP n cs).2 != 0) = true by simpa using hc, brB_true]
    exact h1 hc _ st.dropL (x4.nil_trans x5)

theorem models_hit {b v : Nat} {cs : List (List Int)} (gb gl : Nat) (hgb : G[gb]? = some (cF b v s)) (hgl : G[gl]? = some (lli cs s)) (hg : GoodF v cs) (hv : v ≤ 16) :
    ∀ S, FzOk G S h → FrOk fr S h → ∃ F, (∀ b ∈ F, b < h.size ∧ b ∉ S) ∧ ∀ h1, NewL h h1 → IterG Tryz.prog (.cons .sl .nil) (modV b) h1 (fun pre x h2 N => modNx v cs pre x ∧ (modGf v cs pre x).P N h2) (modFin v cs) F [] := by
  intro S hz _
  obtain ⟨S1, p1, d1⟩ := hz _ (List.mem_of_getElem? hgb)
  obtain ⟨S2, p2, d2⟩ := hz _ (List.mem_of_getElem? hgl)
  have hlt : ∀ b ∈ S1 ++ S2, b < h.size := fun b hb => (List.mem_append.1 hb).elim (At.lt p1 b) (At.lt p2 b)
  refine ⟨S1 ++ S2, fun b hb => ⟨hlt b hb, (List.mem_append.1 hb).elim (d1 b) (d2 b)⟩, fun h1 hn => models_iter (s := s) (fun C hC => ?_) (fun b hb => Nat.lt_of_lt_of_le (hlt b hb) hn.1.1) hg hv⟩
  simp only [List.mem_cons, List.not_mem_nil, or_false] at hC
  rcases hC with rfl | rfl
  · exact ⟨S1, Asn.ext p1 hn.1 (by simp), fun b hb => List.mem_append_left _ hb⟩
  · exact ⟨S2, Asn.ext p2 hn.1 (by simp), fun b hb => List.mem_append_right _ hb⟩
theorem modelsV_hit {b v : Nat} {cs : List (List Int)} (gb gl : Nat) (hgb : G[gb]? = some (cF b v s)) (hgl : G[gl]? = some (lli cs s)) (hg : GoodF v cs) (hv : v ≤ 16) :
    ∀ S, FzOk G S h → FrOk fr S h → ∃ F, (∀ b ∈ F, b < h.size ∧ b ∉ S) ∧ ∀ h1, NewL h h1 → IterSpec Tryz.prog (.cons .val .nil) (modV b) h1 (fun pre x => (pre.length < (modelsF v cs).length)) (fun pre => pre.length = (modelsF v cs).length) F [] := by
  intro S hz _
  obtain ⟨S1, p1, d1⟩ := hz _ (List.mem_of_getElem? hgb)
  obtain ⟨S2, p2, d2⟩ := hz _ (List.mem_of_getElem? hgl)
  have hlt : ∀ b ∈ S1 ++ S2, b < h.size := fun b hb => (List.mem_append.1 hb).elim (At.lt p1 b) (At.lt p2 b)
  refine ⟨S1 ++ S2, fun b hb => ⟨hlt b hb, (List.mem_append.1 hb).elim (d1 b) (d2 b)⟩, fun h1 hn => modelsV_iter (s := s) (fun C hC => ?_) (fun b hb => Nat.lt_of_lt_of_le (hlt b hb) hn.1.1) hg hv⟩
  simp only [List.mem_cons, List.not_mem_nil, or_false] at hC
  rcases hC with rfl | rfl
  · exact ⟨S1, Asn.ext p1 hn.1 (by simp), fun b hb => List.mem_append_left _ hb⟩
  · exact ⟨S2, Asn.ext p2 hn.1 (by simp), fun b hb => List.mem_append_right _ hb⟩

def countF (n : Int) (cs : List (List Int)) : Int × Int := if (checkP n cs).2 ≠ 0 then (0, (checkP n cs).2) else if n > 16 then (0, 5) else (((modelsF n.toNat cs).length : Int), 0)
def firstF (n : Int) (cs : List (List Int)) : List Bool × Bool × Int :=
  if (checkP n cs).2 ≠ 0 then ([], false, (checkP n cs).2) else if n > 16 then ([], false, 5) else match modelsF n.toNat cs with | [] => ([], false, 0) | m :: _ => (m, true, 0)

theorem modelsF_le (v : Nat) (cs : List (List Int)) (hv : v ≤ 16) : (modelsF v cs).length ≤ 65536 := by
  have h1 : (modelsF v cs).length ≤ (Cr.allB v).length := List.length_filter_le _ _
  rw [Cr.allB_len] at h1
  have hN2 : 2 ^ v ≤ 2 ^ 16 := Nat.pow_le_pow_right (by decide) hv
  have e16 : (2 : Nat) ^ 16 = 65536 := by decide
  omega

theorem count_c {n : Int} {cs : List (List Int)} (hA : At h (lli cs s)) :
    callT Tryz.prog fn_formula_Count #[.agg #[.int .i64 n, .slice s.a s.len s.cap]] (.tup (.cons (.int .i64) (.cons (.int .i64) .nil))) (fun r h' => r = ((countF n cs).1, (countF n cs).2, ()) ∧ Ext [] h h') h := by
  refine callT_gen fun K hK => S_formula_Count (a0 := (n, s, ())) K ?_
  unfold F_formula_Count
  show (nw _ _ _) h
  have st := Hs.start h [lli cs s] (by simp [hA])
  refine st.nw fun b0 h1 st => ?_
  simp only [List.nil_append] at st
  refine ldF (s := s) (st.blk 0 rfl) ?_
  refine Hs.Models (n := n) (cs := cs) st (st.fz 0 rfl) (fun hc h2 st _ => ?_) (fun hc hn h2 st _ => ?_) (fun v hv hc hv16 b s' h2 st => ?_)
  · simp only
    rw [show ((checkP n cs).2 != 0) = true by simpa using hc, brB_true]
    intro h3 hM
    exact hK _ _ ⟨by unfold countF; rw [if_pos hc], (st.marked hM).frame (by simp)⟩
  · simp only
    rw [show ((5 : Int) != 0) = true from rfl, brB_true]
    intro h3 hM
    exact hK _ _ ⟨by unfold countF; rw [if_neg (by simp [hc]), if_pos hn], (st.marked hM).frame (by simp)⟩
  · simp only
    rw [show ((0 : Int) != 0) = false from rfl, brB_false]
    subst hv
    have hg := check_good.1 hc
    have hle := modelsF_le v cs hv16
    refine st.nw fun b3 h3 st => ?_
    simp only [List.nil_append, List.cons_append] at st
    refine st.st1 1 0 rfl (by simp) fun h4 st => ?_
    simp only [List.set_cons_zero, List.set_cons_succ] at st
    refine Hs.range st (fun pre x => (pre.length < (modelsF v cs).length)) (fun pre => pre.length = (modelsF v cs).length) (modelsV_hit 1 2 rfl rfl hg hv16) (fun _ _ _ _ => rfl)
      (fun pre Bs => Bs = [cl b0 ty_formula_Formula [.int .i64 v, .slice s.a s.len s.cap], cl b3 ty_int [.int .i64 (pre.length : Int)]]) (fun _ _ => False) rfl ?_ ?_ (fun _ _ hf => hf.elim) (fun i id K hi => by simp at hi)
    · rintro pre ⟨x, ⟨⟩⟩ Bs B hb hlt rfl st next jump hnext hjump
      try simp only
      rw [st.ldi 1 0 rfl rfl, inc_i (show pre.length < 4611686018427387904 by omega)]
      refine st.st1 1 0 rfl (by simp) fun h5 st => ?_
      simp only [List.set_cons_zero, List.set_cons_succ] at st
      refine hnext _ _ ?_ st
      simp only [List.length_append, List.length_singleton]
    · rintro pre Bs h5 hfin rfl st
      rw [st.ldi 1 0 rfl rfl]
      intro h6 hM
      refine hK _ _ ⟨?_, (st.marked hM).frame (by simp)⟩
      unfold countF
      rw [if_neg (by simp [hc]), if_neg (by omega), Int.toNat_natCast, hfin]

theorem first_c {n : Int} {cs : List (List Int)} (hA : At h (lli cs s)) :
    callT Tryz.prog fn_formula_First #[.agg #[.int .i64 n, .slice s.a s.len s.cap]] (.tup (.cons .sl (.cons .bool (.cons (.int .i64) .nil))))
      (fun r h' => ∃ s', r = (s', (firstF n cs).2.1, (firstF n cs).2.2, ()) ∧ New h.size h' (ob (firstF n cs).1 s') ∧ Ext [] h h') h := by
  refine callT_gen fun K hK => S_formula_First (a0 := (n, s, ())) K ?_
  unfold F_formula_First
  show (nw _ _ _) h
  have st := Hs.start h [lli cs s] (by simp [hA])
  refine st.nw fun b0 h1 st => ?_
  refine st.nw fun b1 h2 st => ?_
  refine st.nw fun b2 h3 st => ?_
  refine st.nw fun b3 h4 st => ?_
  simp only [List.nil_append, List.cons_append] at st
  refine ldF (s := s) (st.blk 0 rfl) ?_
  have done : ∀ {G : List Asn} {m : List Bool} {s' : Sl} {is : Bool} {e : Int} {h' : Heap}, firstF n cs = (m, is, e) → Hs [([], h)] G [cl b0 ty_formula_Formula [.int .i64 n, .slice s.a s.len s.cap], cl b1 ty_sl_bool [.slice s'.a s'.len s'.cap], cl b2 ty_bool [.bool is], cl b3 ty_api_Errno [.int .i64 e], ob m s'] h' →
      (mkd h.size <| ldT .sl (⟨b1, 0, none⟩ : Addr) fun x6 => ldT .bool (⟨b2, 0, none⟩ : Addr) fun x7 => ldT (.int .i64) (⟨b3, 0, none⟩ : Addr) fun x8 => K (⟨x6.a, x6.len, x6.cap⟩, x7, x8, ())) h' := by
    intro G m s' is e h' hf st
    intro h6 hM
    have st := st.marked hM
    rw [st.lds 1 0 rfl rfl, st.ldb 2 0 rfl rfl, st.ldi 3 0 rfl rfl]
    refine hK _ _ ⟨s', by rw [hf], ?_, st.frame (by simp)⟩
    rw [hf]
    exact st.res (by simp) 4 rfl
  have none_ : ∀ {G : List Asn} {v1 v2 v3 : List Value} {e : Int} {h' : Heap} {K2 : HP}, v1.length = 1 → v2.length = 1 → v3.length = 1 → (∀ h', Hs [([], h)] G [cl b0 ty_formula_Formula [.int .i64 n, .slice s.a s.len s.cap], cl b1 ty_sl_bool [.slice none 0 0], cl b2 ty_bool [.bool false], cl b3 ty_api_Errno [.int .i64 e]] h' → K2 h') →
      Hs [([], h)] G [cl b0 ty_formula_Formula [.int .i64 n, .slice s.a s.len s.cap], cl b1 ty_sl_bool v1, cl b2 ty_bool v2, cl b3 ty_api_Errno v3] h' →
      (st1 (⟨b1, 0, none⟩ : Addr) (.slice none 0 0) <| st1 (⟨b2, 0, none⟩ : Addr) (.bool false) <| st1 (⟨b3, 0, none⟩ : Addr) (.int .i64 e) <| K2) h' := by
    intro G v1 v2 v3 e h' K2 q1 q2 q3 hK2 st
    match v1, v2, v3, q1, q2, q3 with
    | [x1], [x2], [x3], _, _, _ =>
    refine st.st1 1 0 rfl (by simp) fun h5 st => ?_
    refine st.st1 2 0 rfl (by simp) fun h6 st => ?_
    refine st.st1 3 0 rfl (by simp) fun h7 st => ?_
    exact hK2 _ st
  refine Hs.Models (n := n) (cs := cs) st (st.fz 0 rfl) (fun hc h5 st _ => ?_) (fun hc hn h5 st _ => ?_) (fun v hv hc hv16 b s' h5 st => ?_)
  · simp only
    rw [show ((checkP n cs).2 != 0) = true by simpa using hc, brB_true]
    exact none_ rfl rfl rfl (fun h' st => done (m := []) (s' := ⟨none, 0, 0⟩) (by unfold firstF; rw [if_pos hc]) (st.nil ty_bool Ty.bool.enc none)) st
  · simp only
    rw [show ((5 : Int) != 0) = true from rfl, brB_true]
    exact none_ rfl rfl rfl (fun h' st => done (m := []) (s' := ⟨none, 0, 0⟩) (by unfold firstF; rw [if_neg (by simp [hc]), if_pos hn]) (st.nil ty_bool Ty.bool.enc none)) st
  · simp only
    rw [show ((0 : Int) != 0) = false from rfl, brB_false]
    subst hv
    have hg := check_good.1 hc
    have ef : firstF v cs = match modelsF v cs with | [] => ([], false, 0) | m :: _ => (m, true, 0) := by
      unfold firstF
      rw [if_neg (by simp [hc]), if_neg (by omega), Int.toNat_natCast]
    refine st.rangeG (modNx v cs) (modGf v cs) (modFin v cs) (models_hit 1 2 rfl rfl hg hv16) (fun _ _ _ _ => rfl)
      (fun pre Bs => pre = [] ∧ Bs = [cl b0 ty_formula_Formula [.int .i64 v, .slice s.a s.len s.cap], cl b1 ty_sl_bool [.slice none 0 0], cl b2 ty_bool [.bool false], cl b3 ty_api_Errno [.int .i64 0]])
      (fun j Bs => j = .ret ∧ ∃ (m : List Bool) (r : List (List Bool)) (s' : Sl), modelsF v cs = m :: r ∧ Bs = [cl b0 ty_formula_Formula [.int .i64 v, .slice s.a s.len s.cap], cl b1 ty_sl_bool [.slice s'.a s'.len s'.cap], cl b2 ty_bool [.bool true], cl b3 ty_api_Errno [.int .i64 0], ob m s']) ⟨rfl, rfl⟩ ?_ ?_ ?_ (fun i id K hi => by simp at hi)
    · rintro pre ⟨x, ⟨⟩⟩ Bs B hb hlt ⟨rfl, rfl⟩ st next jump hnext hjump
      simp only [List.nil_append, List.cons_append] at st
      simp only
      refine st.st1 1 0 rfl (by simp) fun h6 st => ?_
      refine st.st1 2 0 rfl (by simp) fun h7 st => ?_
      refine st.st1 3 0 rfl (by simp) fun h8 st => ?_
      simp only [List.set_cons_zero, List.set_cons_succ] at st
      have hlt : 0 < (modelsF v cs).length := hlt
      cases hm : modelsF v cs with
      | nil => rw [hm] at hlt; simp at hlt
      | cons m r =>
        refine hjump _ _ _ ⟨rfl, m, r, x, hm, ?_⟩ st
        show _ = _
        simp only [modGf, hm]; rfl
    · rintro pre Bs h6 hfin ⟨rfl, rfl⟩ st
      have hfin : 0 = (modelsF v cs).length := hfin
      have hm : modelsF v cs = [] := List.eq_nil_of_length_eq_zero hfin.symm
      rw [hm] at ef
      exact none_ rfl rfl rfl (fun h' st => done (m := []) (s' := ⟨none, 0, 0⟩) ef (st.nil ty_bool Ty.bool.enc none)) st
    · rintro Bs h6 ⟨_, m, r, s', hm, rfl⟩ st
      rw [hm] at ef
      exact done ef st

end Go.Proofs.S

/-
  The package formula: Assign, Model: contracts.
-/
set_option linter.unusedVariables false
set_option linter.unusedSimpArgs false
namespace Go.Sx
open Go
theorem Hs.swap2 {fr : Fr} {G : List Asn} {A B : Asn} {h : Heap} (st : Hs fr G [A, B] h) : Hs fr G [B, A] h := by
  obtain ⟨S, ⟨S1, S2, e, hd, hA, S3, S4, e2, hd2, hB, e3⟩, hz, hf⟩ := st
  subst e e2 e3
  have hm : ∀ b ∈ S3 ++ (S1 ++ []), b ∈ S1 ++ (S3 ++ []) := fun b hb => by
    simp only [List.append_nil, List.mem_append] at hb ⊢; exact hb.symm
  refine ⟨S3 ++ (S1 ++ []), ⟨S3, S1 ++ [], rfl, fun b hb hin => ?_, hB, S1, [], rfl, by simp, hA, rfl⟩, hz.mono fun b hb => .inl (hm b hb), hf.mono fun b hb => .inl (hm b hb)⟩
  simp only [List.append_nil] at hin
  exact hd b hin (by simpa using hb)
end Go.Sx
namespace Go.Proofs.S
open Go Go.Sx Go.Proofs Go.Cl

variable {h : Heap} {c d : List Int} {s s2 : Sl} {fr : Fr} {G As : List Asn} {m : List Bool} {sm : Sl}

theorem bey_rt {n x : Int} (h : beyP n x = false) : rt x = true ∧ varL x ≤ n := by
  unfold beyP at h
  simp only [Bool.or_eq_false_iff, Bool.not_eq_false', decide_eq_false_iff_not] at h
  exact ⟨h.1, by omega⟩
theorem varL_pos {x : Int} (h : rt x = true) : 1 ≤ varL x ∧ varL x ≤ 1048576 := by
  have := rt_iff.1 h
  unfold varL
  rw [if_pos h]; split <;> omega

/-! ### Assign -/

def assignL (l : Int) (cs : List (List Int)) : List (List Int) := (cs.filter fun c => !c.contains l).map fun c => c.filter fun x => !(x == -l)
theorem assignL_step (l : Int) {cs : List (List Int)} {i : Nat} (hi : i < cs.length) : assignL l (cs.take (i + 1)) = assignL l (cs.take i) ++ (if cs[i].contains l then [] else [cs[i].filter fun x => !(x == -l)]) := by
  unfold assignL
  rw [take_succ_getE hi, List.filter_append, List.map_append]
  congr 1
  by_cases hc : cs[i].contains l = true
  · rw [if_pos hc, List.filter_cons_of_neg (p := fun c : List Int => !c.contains l) (by rw [hc]; decide)]; rfl
  · rw [if_neg hc, List.filter_cons_of_pos (p := fun c : List Int => !c.contains l) (by rw [Bool.not_eq_true] at hc; rw [hc]; rfl)]; rfl
theorem assignL_len (l : Int) (cs : List (List Int)) : (assignL l cs).length ≤ cs.length := by
  unfold assignL
  rw [List.length_map]; exact List.length_filter_le _ _
def assignF (n : Int) (cs : List (List Int)) (l : Int) : (Int × List (List Int)) × Int :=
  if (checkP n cs).2 ≠ 0 then ((0, []), (checkP n cs).2) else if beyP n l then ((0, []), 51) else ((n, assignL l cs), 0)

theorem assign1_c {b : Nat} {t0 : TypeId} {l : Int} (hl : rt l = true) (kb : Blk h b t0 [.int .i64 l]) (x : Int) : callT Tryz.prog fn_formula_Assign_1 #[.int .i64 x, .pointer (some ⟨b, 0, none⟩)] .bool (fun r h' => r = (x == -l) ∧ Ext [] h h') h := by
  refine callT_gen fun K hK => S_formula_Assign_1 (a0 := x) (c0 := ⟨b, 0, none⟩) K ?_
  unfold F_formula_Assign_1
  rw [ld_int (i := 0) kb rfl, wneg hl]
  exact hK _ _ ⟨rfl, Ext.refl' _ _⟩

theorem assign_c {n : Int} {cs : List (List Int)} (hA : At h (lli cs s)) (l : Int) :
    callT Tryz.prog fn_formula_Assign #[.agg #[.int .i64 n, .slice s.a s.len s.cap], .int .i64 l] (.tup (.cons (.agg (.cons (.int .i64) (.cons .sl .nil))) (.cons (.int .i64) .nil)))
      (fun r h' => ∃ s', r = (((assignF n cs l).1.1, s', ()), (assignF n cs l).2, ()) ∧ New h.size h' (llo (assignF n cs l).1.2 s') ∧ Ext [] h h') h := by
  refine callT_gen fun K hK => S_formula_Assign (a0 := (n, s, ())) (a1 := l) K ?_
  unfold F_formula_Assign
  have st := Hs.start h [lli cs s] (by simp [hA])
  refine st.nw fun b0 h1 st => ?_
  refine st.nw fun b1 h2 st => ?_
  refine st.nw fun b2 h3 st => ?_
  have st := (st.freeze 0 rfl).freeze 0 rfl
  simp only [List.nil_append, List.cons_append, List.eraseIdx_cons_zero, addr_add, Nat.zero_add] at st ⊢
  have bad : ∀ {e : Int} {h' : Heap}, (assignF n cs l) = ((0, []), e) → Hs [([], h)] [lli cs s, cF b0 n s, cl b1 ty_lits_Lit [.int .i64 l]] [cl b2 ty_formula_Formula [.int .i64 0, .slice none 0 0]] h' →
      (st1 (⟨b2, 0, none⟩ : Addr) (.int .i64 (0 : Int)) <| st1 (⟨b2, 1, none⟩ : Addr) (.slice none 0 0) <| ldA (.cons (.int .i64) (.cons .sl .nil)) (⟨b2, 0, none⟩ : Addr) fun x5 => K ((x5.1, ⟨x5.2.1.a, x5.2.1.len, x5.2.1.cap⟩, ()), e, ())) h' := by
    intro e h' he st
    refine st.st1 0 0 rfl (by simp) fun h5 st => ?_
    refine st.st1 0 1 rfl (by simp) fun h6 st => ?_
    refine ldF (s := ⟨none, 0, 0⟩) (st.blk 0 rfl) ?_
    refine hK _ _ ⟨⟨none, 0, 0⟩, by rw [he], ?_, st.frame (by simp)⟩
    rw [he]; exact osg_nil _ _
  refine ldF (s := s) (st.fblk 1 rfl) ?_
  refine call_of (check_c (n := n) (st.fz 0 rfl)) ?_
  rintro _ h4 ⟨rfl, x4⟩
  have st := st.ext x4
  simp only
  by_cases hc : (checkP n cs).2 = 0
  · rw [show ((checkP n cs).2 != 0) = false by simp [hc], brB_false]
    have hg := check_good.1 hc
    rw [ld_int (i := 0) (st.fblk 1 rfl) rfl, ld_int (i := 0) (st.fblk 2 rfl) rfl]
    refine beyond_c n fun b8 h5 x5 kb => ?_
    have st := st.ext x5
    rw [ck_ok (i := 0) (st.fblk 2 rfl) rfl]
    refine callF_of (beyondF kb l) ?_
    rintro _ hq ⟨rfl, rfl⟩
    cases hb : beyP n l with
    | true =>
      rw [brB_true]
      exact bad (by unfold assignF; rw [if_neg (by simp [hc]), if_pos hb]) st
    | false =>
      rw [brB_false]
      have hrt := (bey_rt hb).1
      rw [ld_int (i := 0) (st.fblk 1 rfl) rfl]
      refine st.nw fun b12 h6 st => ?_
      simp only [List.nil_append, List.cons_append, addr_add, Nat.zero_add] at st ⊢
      refine st.st1 1 0 rfl (by simp) fun h7 st => ?_
      refine st.st1 1 1 rfl (by simp) fun h8 st => ?_
      simp only [List.set_cons_zero, List.set_cons_succ] at st
      rw [ld_sl (i := 1) (st.fblk 1 rfl) rfl]
      have st := st.nilg (fun c p => lo c p) ty_clauses_Clause none
      simp only [List.nil_append, List.cons_append] at st
      have l1 := rsg_len (st.fz 0 rfl)
      have hlen := good_len hg
      refine lfp_invh (I := fun μ σ h' => ∃ (i : Nat) (s' : Sl), σ = ((i : Int), ()) ∧ i ≤ cs.length ∧
          Hs [([], h)] [lli cs s, cF b0 n s, cl b1 ty_lits_Lit [.int .i64 l]] [cl b2 ty_formula_Formula [.int .i64 0, .slice none 0 0], cl b12 ty_formula_Formula [.int .i64 n, .slice s'.a s'.len s'.cap], llo (assignL l (cs.take i)) s'] h' ∧ μ = cs.length - i)
        ⟨_, 0, ⟨none, 0, 0⟩, rfl, by omega, st, rfl⟩ ?_
      clear st
      rintro μ σ h9 X ⟨i, s', rfl, hi, st, em⟩ hX
      simp only
      by_cases hlt : i < cs.length
      · rw [decide_eq_true (show (i : Int) < (s.len : Int) by omega), brB_true, inc_i (show i < 4611686018427387904 by omega)]
        refine rdG (st.fz 0 rfl) hlt fun p hp => ?_
        have hcl := hlen.2 _ (List.getElem_mem hlt)
        rw [ld_int (i := 0) (st.fblk 2 rfl) rfl]
        refine call_of (contains_clause hp (by omega) l) ?_
        rintro r hq ⟨er, rfl⟩
        have er : r = cs[i].contains l := er
        subst er
        refine jn_in fun J hJ => ?_
        have fin : ∀ s' h', Hs [([], h)] [lli cs s, cF b0 n s, cl b1 ty_lits_Lit [.int .i64 l]] [cl b2 ty_formula_Formula [.int .i64 0, .slice none 0 0], cl b12 ty_formula_Formula [.int .i64 n, .slice s'.a s'.len s'.cap], llo (assignL l (cs.take (i + 1))) s'] h' → J () h' :=
          fun s' h' st => hJ _ _ (hX _ _ _ ⟨i + 1, s', rfl, by omega, st, rfl⟩ (by omega))
        rw [assignL_step l hlt] at fin
        have hal := Nat.le_trans (assignL_len l (cs.take i)) (show (cs.take i).length ≤ i by simp; omega)
        cases hcl2 : cs[i].contains l with
        | true =>
          rw [if_pos hcl2, List.append_nil] at fin
          rw [Bool.not_true, brB_false]
          exact fin s' _ st
        | false =>
          rw [if_neg (by rw [hcl2]; decide)] at fin
          rw [Bool.not_false, brB_true]
          rw [st.lds 1 1 rfl rfl]
          refine Hs.fclone_c st hp hcl fun r23 h10 st => ?_
          simp only [List.nil_append, List.cons_append] at st
          rw [st.ck 1 1 rfl rfl]
          obtain ⟨S1, p1, hG, hw⟩ := st.focusG 3 rfl
          refine call_of (delete_c (q := fun x => x == -l) p1 (by omega) (fun h' x y hy => callF_func ?_)) ?_
          · obtain ⟨_, _, kb⟩ := hG h' x (cl b1 ty_lits_Lit [.int .i64 l]) (by simp)
            exact assign1_c hrt kb y
          · rintro r24 h11 ⟨p11, x11⟩
            have st := hw _ S1 h11 x11 p11 (fun b hb => .inl hb)
            simp only [List.set_cons_zero, List.set_cons_succ] at st
            rw [st.ck 1 1 rfl rfl]
            refine st.nw fun b25 h12 st => ?_
            simp only [List.nil_append, List.cons_append] at st
            refine Hs.apdG (I := fun c p => lo c p) (x := cs[i].filter fun x => !(x == -l)) (p := r24) st 2 4 3 rfl rfl rfl (by decide) (by decide) (by omega) (by decide) rfl fun s26 h13 st => ?_
            simp only [List.set_cons_zero, List.set_cons_succ] at st
            refine st.st1 1 1 rfl (by simp) fun h14 st => ?_
            simp only [List.set_cons_zero, List.set_cons_succ] at st
            exact fin s26 _ ((st.drop 4 rfl).drop 3 rfl)
      rw [decide_eq_false (show ¬ (i : Int) < (s.len : Int) by omega), brB_false]
      rw [List.take_of_length_le (by omega)] at st
      refine ldF (s := s') (st.blk 1 rfl) ?_
      refine st.st1 0 0 rfl (by simp) fun h10 st => ?_
      refine st.st1 0 1 rfl (by simp) fun h11 st => ?_
      refine ldF (s := s') (st.blk 0 rfl) ?_
      have ea : assignF n cs l = ((n, assignL l cs), 0) := by unfold assignF; rw [if_neg (by simp [hc]), if_neg (by simp [hb])]
      refine hK _ _ ⟨s', by rw [ea], ?_, st.frame (by simp)⟩
      rw [ea]; exact st.res (by simp) 2 rfl
  · rw [show ((checkP n cs).2 != 0) = true by simpa using hc, brB_true]
    exact bad (by unfold assignF; rw [if_pos hc]) st

end Go.Proofs.S

/-
  The package formula: Model: contract.
-/
set_option linter.unusedVariables false
set_option linter.unusedSimpArgs false
namespace Go.Proofs.S
open Go Go.Sx Go.Proofs Go.Cl

variable {h : Heap} {c d : List Int} {s s2 : Sl} {fr : Fr} {G As : List Asn} {m : List Bool} {sm : Sl}

/-- The values so far, and which are set. -/
def modelGo (n : Int) : List Bool → List Bool → List Int → List Bool × Int
  | out, set, [] => (out, 0)
  | out, set, x :: l => if beyP n x then ([], 51) else
      if set.getD (varL x - 1).toNat false && (out.getD (varL x - 1).toNat false == decide (x < 0)) then ([], 52) else
      modelGo n (out.set (varL x - 1).toNat (!decide (x < 0))) (set.set (varL x - 1).toNat true) l
theorem modelGo_cons (n : Int) (out set : List Bool) (x : Int) (l : List Int) : modelGo n out set (x :: l) = if beyP n x then ([], 51) else
      if set.getD (varL x - 1).toNat false && (out.getD (varL x - 1).toNat false == decide (x < 0)) then ([], 52) else
      modelGo n (out.set (varL x - 1).toNat (!decide (x < 0))) (set.set (varL x - 1).toNat true) l := rfl
theorem modelGo_nil (n : Int) (out set : List Bool) : modelGo n out set [] = (out, 0) := rfl
def modelF (n : Int) (l : List Int) : List Bool × Int := if varsP n then modelGo n (List.replicate n.toNat false) (List.replicate n.toNat false) l else ([], 50)

theorem model_loop {n : Nat} {so ss : Sl} {out set : List Bool} (hl : c.length ≤ 1099511627776) (hn : n ≤ 1048576)
    {K : (Sl × (Int × Unit)) → HP} (h0 : Heap)
    (hK : ∀ s' h', New h0.size h' (ob (modelGo n out set c).1 s') → Ext [] h0 h' → K (s', (modelGo n out set c).2, ()) h')
    (ho : out.length = n) (hs : set.length = n) {G : List Asn} (g : Nat) (hg : G[g]? = some (li c s)) (st : Hs [([], h0)] G [ob out so, ob set ss] h) :
    lfp (σ := (Int × (Int × (Sl × Unit)))) (fun X3 s4 =>
      brB (decide (s4.1 < (s.len : Int)))
      (sx s.a s.len s4.1 1 fun p5 => ldT (.int .i64) p5 fun x6 =>
        callT Tryz.prog fn_formula_beyond #[(.int .i64 (n : Int))] .val fun r7 => callF Tryz.prog r7 #[(.int .i64 x6)] .bool fun r8 =>
        brB r8 (K (⟨none, 0, 0⟩, (51 : Int), ()))
        (callT Tryz.prog fn_lits_Var #[(.int .i64 x6)] (.int .i64) fun r9 =>
          sx ss.a ss.len (IntKind.wrap .i64 (r9 - (1 : Int))) 1 fun p10 => ldT .bool p10 fun x11 =>
          brB x11
          (sx so.a so.len (IntKind.wrap .i64 (r9 - (1 : Int))) 1 fun p12 => ldT .bool p12 fun x13 =>
            callT Tryz.prog fn_lits_Negated #[(.int .i64 x6)] .bool fun r14 => Sx.ck p12 (.bool x13) <|
            brB (x13 == r14) (K (⟨none, 0, 0⟩, (52 : Int), ()))
            (callT Tryz.prog fn_lits_Negated #[(.int .i64 x6)] .bool fun r15 =>
              sx so.a so.len (IntKind.wrap .i64 (r9 - (1 : Int))) 1 fun p16 => Sx.st1 p16 (.bool (!r15)) <|
              sx ss.a ss.len (IntKind.wrap .i64 (r9 - (1 : Int))) 1 fun p17 => Sx.st1 p17 (.bool true) <|
              X3 ((IntKind.wrap .i64 (s4.1 + (1 : Int))), s4.2.1, ⟨s4.2.2.1.a, s4.2.2.1.len, s4.2.2.1.cap⟩, ())))
          (callT Tryz.prog fn_lits_Negated #[(.int .i64 x6)] .bool fun r18 =>
            sx so.a so.len (IntKind.wrap .i64 (r9 - (1 : Int))) 1 fun p19 => Sx.st1 p19 (.bool (!r18)) <|
            sx ss.a ss.len (IntKind.wrap .i64 (r9 - (1 : Int))) 1 fun p20 => Sx.st1 p20 (.bool true) <|
            X3 ((IntKind.wrap .i64 (s4.1 + (1 : Int))), s4.2.1, ⟨s4.2.2.1.a, s4.2.2.1.len, s4.2.2.1.cap⟩, ()))))
      (K (⟨so.a, so.len, so.cap⟩, (0 : Int), ())))
      ((0 : Int), (0 : Int), ⟨none, 0, 0⟩, ()) h := by
  have l1 := rsl_len (st.fz g hg)
  refine lfp_invh (I := fun μ σ h' => ∃ (i : Nat) (out' set' : List Bool), σ = ((i : Int), 0, ⟨none, 0, 0⟩, ()) ∧ i ≤ c.length ∧ out'.length = n ∧ set'.length = n ∧ modelGo n out' set' (c.drop i) = modelGo n out set c ∧ Hs [([], h0)] G [ob out' so, ob set' ss] h' ∧ μ = c.length - i)
    ⟨_, 0, out, set, rfl, by omega, ho, hs, rfl, st, rfl⟩ ?_
  clear st ho hs
  rintro μ σ h1 X ⟨i, out', set', rfl, hi, ho, hs, hm, st, em⟩ hX
  simp only
  by_cases hlt : i < c.length
  · rw [decide_eq_true (show (i : Int) < (s.len : Int) by omega), brB_true, inc_i (show i < 4611686018427387904 by omega)]
    rw [List.drop_eq_getElem_cons hlt, modelGo_cons] at hm
    refine rdE (τ := i64) (st.fz g hg) hlt ?_
    refine beyond_c n fun b7 h2 x2 kb => ?_
    have st := st.ext x2
    refine callF_of (beyondF kb c[i]) ?_
    rintro _ hq ⟨rfl, rfl⟩
    cases hb : beyP n c[i] with
    | true =>
      rw [if_pos hb] at hm
      rw [brB_true]
      rw [← hm] at hK
      exact hK ⟨none, 0, 0⟩ _ (osl_nil _ _) (st.frame (by simp))
    | false =>
      rw [if_neg (by simp [hb])] at hm
      rw [brB_false]
      obtain ⟨hrt, hv⟩ := bey_rt hb
      obtain ⟨hv1, hvb⟩ := varL_pos hrt
      refine call_of (lits_Var_c c[i]) ?_
      rintro r hq ⟨er, rfl⟩
      have er : r = varL c[i] := er
      subst er
      have e1 : IntKind.wrap .i64 (varL c[i] - 1) = (((varL c[i] - 1).toNat : Nat) : Int) := by rw [wrap_i64 (by omega) (by omega)]; omega
      rw [e1]
      have hj : (varL c[i] - 1).toNat < n := by omega
      have hnx : ∀ h', Hs [([], h0)] G [ob out' so, ob set' ss] h' → (set'.getD (varL c[i] - 1).toNat false && (out'.getD (varL c[i] - 1).toNat false == decide (c[i] < 0))) = false → 
          (callT Tryz.prog fn_lits_Negated #[(.int .i64 c[i])] .bool fun r15 =>
              sx so.a so.len (((varL c[i] - 1).toNat : Nat) : Int) 1 fun p16 => Sx.st1 p16 (.bool (!r15)) <|
              sx ss.a ss.len (((varL c[i] - 1).toNat : Nat) : Int) 1 fun p17 => Sx.st1 p17 (.bool true) <|
              X (((i + 1 : Nat) : Int), 0, ⟨none, 0, 0⟩, ())) h' := by
        intro h' st hno
        rw [if_neg (by rw [hno]; decide)] at hm
        refine call_of (neg_c c[i]) ?_
        rintro r hq ⟨er, rfl⟩
        have er : r = decide (c[i] < 0) := by rw [hrt, Bool.true_and] at er; exact er
        subst er
        generalize (varL c[i] - 1).toNat = j at *
        refine st.wrE (τ := .bool) 0 rfl (show j < out'.length by omega) _ fun h3 st => ?_
        simp only [List.set_cons_zero] at st
        refine st.wrE (τ := .bool) 1 rfl (show j < set'.length by omega) true fun h4 st => ?_
        simp only [List.set_cons_zero, List.set_cons_succ] at st
        exact hX _ _ _ ⟨i + 1, _, _, rfl, by omega, by simpa using ho, by simpa using hs, hm, st, rfl⟩ (by omega)
      refine rdE (τ := .bool) (st.own 1 rfl).rsl (show (varL c[i] - 1).toNat < set'.length by omega) ?_
      have es : set'.getD (varL c[i] - 1).toNat false = set'[(varL c[i] - 1).toNat]'(by omega) := by rw [List.getD_eq_getElem?_getD, List.getElem?_eq_getElem (by omega)]; rfl
      have eo : out'.getD (varL c[i] - 1).toNat false = out'[(varL c[i] - 1).toNat]'(by omega) := by rw [List.getD_eq_getElem?_getD, List.getElem?_eq_getElem (by omega)]; rfl
      cases hset : set'[(varL c[i] - 1).toNat]'(by omega) with
      | false =>
        rw [brB_false]
        exact hnx _ st (by rw [es, hset]; rfl)
      | true =>
        rw [brB_true]
        have hjo : (varL c[i] - 1).toNat < out'.length := by omega
        obtain ⟨a, ea, hc⟩ := rsl_cells (st.own 0 rfl).rsl (List.getElem?_eq_getElem hjo)
        refine ⟨a, ea, by omega, by rw [osl_len (st.own 0 rfl)]; omega, out'[(varL c[i] - 1).toNat], by simpa using hc, ?_⟩
        refine call_of (neg_c c[i]) ?_
        rintro r hq ⟨er, rfl⟩
        have er : r = decide (c[i] < 0) := by rw [hrt, Bool.true_and] at er; exact er
        subst er
        refine ⟨by rw [Int.toNat_natCast, Nat.mul_one]; exact hc, ?_⟩
        cases hoo : (out'[(varL c[i] - 1).toNat] == decide (c[i] < 0)) with
        | true =>
          rw [if_pos (by rw [es, hset, eo, hoo]; rfl)] at hm
          rw [brB_true]
          rw [← hm] at hK
          exact hK ⟨none, 0, 0⟩ _ (osl_nil _ _) (st.frame (by simp))
        | false =>
          rw [brB_false]
          exact hnx _ st (by rw [es, hset, eo, hoo]; rfl)
  · rw [decide_eq_false (show ¬ (i : Int) < (s.len : Int) by omega), brB_false]
    rw [List.drop_eq_nil_of_le (by omega), modelGo_nil] at hm
    rw [← hm] at hK
    exact hK _ _ (st.res (by simp) 0 rfl) (st.frame (by simp))

theorem fmodel_c {n : Int} (hA : At h (li c s)) (hl : c.length ≤ 1099511627776) :
    callT Tryz.prog fn_formula_Model #[.int .i64 n, .slice s.a s.len s.cap] (.tup (.cons .sl (.cons (.int .i64) .nil)))
      (fun r h' => ∃ s', r = (s', (modelF n c).2, ()) ∧ New h.size h' (ob (modelF n c).1 s') ∧ Ext [] h h') h := by
  refine callT_gen fun K hK => S_formula_Model (a0 := n) (a1 := s) K ?_
  unfold F_formula_Model
  refine call_of (vars_c n) ?_
  rintro _ hq ⟨rfl, rfl⟩
  unfold modelF at hK
  cases hv : varsP n with
  | false =>
    rw [hv] at hK
    rw [Bool.not_false, brB_true]
    exact hK _ _ ⟨⟨none, 0, 0⟩, rfl, osl_nil _ _, Ext.refl' _ _⟩
  | true =>
    rw [hv, if_pos rfl] at hK
    rw [Bool.not_true, brB_false]
    have hn : 0 ≤ n ∧ n ≤ 1048576 := by
      unfold varsP at hv
      simp only [Bool.and_eq_true, decide_eq_true_eq] at hv
      exact ⟨hv.1, hv.2⟩
    obtain ⟨n, rfl⟩ := Int.eq_ofNat_of_zero_le hn.1
    rw [Int.toNat_natCast] at hK
    have hl2 : n ≤ 1048576 := by omega
    have hK2 : ∀ s' h', New hq.size h' (ob (modelGo n (List.replicate n false) (List.replicate n false) c).1 s') → Ext [] hq h' → K (s', (modelGo n (List.replicate n false) (List.replicate n false) c).2, ()) h' := fun s' h' a b => hK _ _ ⟨s', rfl, a, b⟩
    have st := Hs.start hq [li c s] (by simp [hA])
    refine ⟨?_, ?_⟩
    · refine Hs.mks1 (n := n) (τ := .bool) (z := false) st (by omega) (by decide) fun s1 h1 st => ?_
      simp only [List.nil_append] at st
      refine ⟨?_, ?_⟩
      · refine Hs.mks1 (n := n) (τ := .bool) (z := false) st (by omega) (by decide) fun s2 h2 st => ?_
        simp only [List.nil_append, List.cons_append] at st
        exact model_loop hl hl2 hq hK2 (by simp) (by simp) 0 rfl st
      · refine Hs.mks1 (n := n) (τ := .bool) (z := false) st (by omega) (by decide) fun s2 h2 st => ?_
        simp only [List.nil_append, List.cons_append] at st
        exact model_loop hl hl2 hq hK2 (by simp) (by simp) 0 rfl st
    · refine Hs.mks1 (n := n) (τ := .bool) (z := false) st (by omega) (by decide) fun s1 h1 st => ?_
      simp only [List.nil_append] at st
      refine Hs.mks1 (n := n) (τ := .bool) (z := false) st (by omega) (by decide) fun s2 h2 st => ?_
      simp only [List.nil_append, List.cons_append] at st
      exact model_loop hl hl2 hq hK2 (by simp) (by simp) 0 rfl st.swap2

end Go.Proofs.S

/-
  The package formula: Norm: contract.
-/
set_option linter.unusedVariables false
set_option linter.unusedSimpArgs false
namespace Go.Cl
open Go Go.Sx

/-- The normal forms. -/
def Nf (c : List Int) : Prop := rightC c = true ∧ nrm c = c
theorem totC : TotC Nf compareP where
  zero := fun {a b} ha hb => by
    have := same_compare ha.1 hb.1
    unfold sameP at this
    rw [ha.1, hb.1, Bool.true_and, Bool.true_and, ha.2, hb.2] at this
    constructor
    · intro h
      rw [h] at this
      exact of_decide_eq_true (this.trans (by rfl))
    · intro h
      rw [decide_eq_true h] at this
      exact eq_of_beq this.symm
  anti := fun {a b} ha hb => by have := compare_anti ha.1 hb.1; omega
  trans := fun {a b d} ha hb hd h k => compare_trans ha.1 hb.1 hd.1 h k
def normL (cs : List (List Int)) : List (List Int) := sortC compareP ((cs.filter fun c => !alwaysC c).map nrm)
def normF (n : Int) (cs : List (List Int)) : (Int × List (List Int)) × Int := if (checkP n cs).2 ≠ 0 then ((0, []), (checkP n cs).2) else ((n, normL cs), 0)
theorem nf_nrm {c : List Int} (h : rightC c = true) : Nf (nrm c) := ⟨right_nrm h, nrm_nrm h⟩

end Go.Cl
namespace Go.Proofs.S
open Go Go.Sx Go.Proofs Go.Cl

variable {h : Heap} {c d : List Int} {s s2 : Sl} {fr : Fr} {G As : List Asn} {m : List Bool} {sm : Sl}

abbrev sf_clauses : SF := ⟨fn_slices_pdqsortCmpFunc_clauses_Clause, fn_slices_insertionSortCmpFunc_clauses_Clause, fn_slices_heapSortCmpFunc_clauses_Clause, fn_slices_siftDownCmpFunc_clauses_Clause, fn_slices_breakPatternsCmpFunc_clauses_Clause, fn_slices_choosePivotCmpFunc_clauses_Clause, fn_slices_reverseRangeCmpFunc_clauses_Clause, fn_slices_partialInsertionSortCmpFunc_clauses_Clause, fn_slices_partitionEqualCmpFunc_clauses_Clause, fn_slices_partitionCmpFunc_clauses_Clause, fn_slices_medianCmpFunc_clauses_Clause, fn_slices_medianAdjacentCmpFunc_clauses_Clause, fn_slices_order2CmpFunc_clauses_Clause, fn_slices_nextPowerOfTwo, fn_slices_xorshift_Next, fn_math_bits_Len, fn_math_bits_Len64, ty_slices_xorshift, ty_int⟩

theorem sorts_clauses : Sorts Tryz.prog .sl sf_clauses where
  pdq := fun K hF => S_slices_pdqsortCmpFunc_clauses_Clause K hF
  ins := fun K hF => S_slices_insertionSortCmpFunc_clauses_Clause K hF
  heap := fun K hF => S_slices_heapSortCmpFunc_clauses_Clause K hF
  sift := fun K hF => S_slices_siftDownCmpFunc_clauses_Clause K hF
  brk := fun K hF => S_slices_breakPatternsCmpFunc_clauses_Clause K hF
  piv := fun K hF => S_slices_choosePivotCmpFunc_clauses_Clause K hF
  rev := fun K hF => S_slices_reverseRangeCmpFunc_clauses_Clause K hF
  pins := fun K hF => S_slices_partialInsertionSortCmpFunc_clauses_Clause K hF
  peq := fun K hF => S_slices_partitionEqualCmpFunc_clauses_Clause K hF
  part := fun K hF => S_slices_partitionCmpFunc_clauses_Clause K hF
  med := fun K hF => S_slices_medianCmpFunc_clauses_Clause K hF
  meda := fun K hF => S_slices_medianAdjacentCmpFunc_clauses_Clause K hF
  ord2 := fun K hF => S_slices_order2CmpFunc_clauses_Clause K hF
  npow := fun K hF => S_slices_nextPowerOfTwo K hF
  xsh := fun K hF => S_slices_xorshift_Next K hF
  len := fun K hF => S_math_bits_Len K hF
  len64 := fun K hF => S_math_bits_Len64 K hF

theorem encIi (x y : Int) (h : i64.enc x = i64.enc y) : x = y := by
  have h : Value.int .i64 x = .int .i64 y := h
  injection h
theorem compact_clauses {fv : Value} {K : Sl → HP} (hW : W_compact Tryz.prog .sl (.slice none 0 0) s fv K h) : callT Tryz.prog fn_slices_CompactFunc_clauses_Clause_clauses_Clause #[.slice s.a s.len s.cap, fv] .sl K h :=
  S_slices_CompactFunc_clauses_Clause_clauses_Clause (a0 := s) (a1 := fv) K hW
theorem norm1F {p q : Sl} (hA : At h (li c p)) (hB : At h (li d q)) (hl : c.length ≤ 1099511627776) : callF Tryz.prog (.func (.func fn_formula_Norm_1) #[] #[]) #[.slice p.a p.len p.cap, .slice q.a q.len q.cap] .bool (fun r h' => r = decide (c = d) ∧ h' = h) h := by
  refine callF_func (callT_gen fun K hK => S_formula_Norm_1 (a0 := p) (a1 := q) K ?_)
  unfold F_formula_Norm_1
  refine call_of (equal_clause hA hB hl) ?_
  rintro r hq ⟨e, rfl⟩
  exact hK _ _ ⟨e, rfl⟩

abbrev lgo (cs : List (List Int)) (s : Sl) : Asn := rsg (fun c p => lo c p) cs s
theorem lgo_lli {n : Nat} {cs : List (List Int)} (hA : New n h (lgo cs s)) : New n h (lli cs s) := frsg_mono (fun c p S h q => osl_rsl q) hA

theorem fnorm_c {n : Int} {cs : List (List Int)} (hA : At h (lli cs s)) :
    callT Tryz.prog fn_formula_Norm #[.agg #[.int .i64 n, .slice s.a s.len s.cap]] (.tup (.cons (.agg (.cons (.int .i64) (.cons .sl .nil))) (.cons (.int .i64) .nil)))
      (fun r h' => ∃ s', r = (((normF n cs).1.1, s', ()), (normF n cs).2, ()) ∧ New h.size h' (lgo (normF n cs).1.2 s') ∧ Ext [] h h') h := by
  refine callT_gen fun K hK => S_formula_Norm (a0 := (n, s, ())) K ?_
  unfold F_formula_Norm
  have st := Hs.start h [lli cs s] (by simp [hA])
  refine st.nw fun b0 h1 st => ?_
  refine st.nw fun b1 h2 st => ?_
  have st := st.freeze 0 rfl
  simp only [List.nil_append, List.cons_append, List.eraseIdx_cons_zero, addr_add, Nat.zero_add] at st ⊢
  refine ldF (s := s) (st.fblk 1 rfl) ?_
  refine call_of (check_c (n := n) (st.fz 0 rfl)) ?_
  rintro _ h4 ⟨rfl, x4⟩
  have st := st.ext x4
  simp only
  by_cases hc : (checkP n cs).2 = 0
  · rw [show ((checkP n cs).2 != 0) = false by simp [hc], brB_false]
    have hg := check_good.1 hc
    have ea : normF n cs = ((n, normL cs), 0) := by unfold normF; rw [if_neg (by simp [hc])]
    rw [ea] at hK
    rw [ld_int (i := 0) (st.fblk 1 rfl) rfl]
    refine st.nw fun b6 h6 st => ?_
    simp only [List.nil_append, List.cons_append, addr_add, Nat.zero_add] at st ⊢
    refine st.st1 1 0 rfl (by simp) fun h7 st => ?_
    refine st.st1 1 1 rfl (by simp) fun h8 st => ?_
    simp only [List.set_cons_zero, List.set_cons_succ] at st
    rw [ld_sl (i := 1) (st.fblk 1 rfl) rfl]
    have st := st.nilg (fun c p => lo c p) ty_clauses_Clause none
    simp only [List.nil_append, List.cons_append] at st
    have l1 := rsg_len (st.fz 0 rfl)
    have hlen := good_len hg
    refine lfp_invh (I := fun μ σ h' => ∃ (i : Nat) (s' : Sl), σ = ((i : Int), ()) ∧ i ≤ cs.length ∧
        Hs [([], h)] [lli cs s, cF b0 n s] [cl b1 ty_formula_Formula [.int .i64 0, .slice none 0 0], cl b6 ty_formula_Formula [.int .i64 n, .slice s'.a s'.len s'.cap], llo (((cs.take i).filter fun c => !alwaysC c).map nrm) s'] h' ∧ μ = cs.length - i)
      ⟨_, 0, ⟨none, 0, 0⟩, rfl, by omega, st, rfl⟩ ?_
    clear st
    rintro μ σ h9 X ⟨i, s', rfl, hi, st, em⟩ hX
    simp only
    have hfl : (((cs.take i).filter fun c => !alwaysC c).map nrm).length ≤ i := by
      rw [List.length_map]
      exact Nat.le_trans (List.length_filter_le _ _) (by simp; omega)
    by_cases hlt : i < cs.length
    · rw [decide_eq_true (show (i : Int) < (s.len : Int) by omega), brB_true, inc_i (show i < 4611686018427387904 by omega)]
      refine rdG (st.fz 0 rfl) hlt fun p hp => ?_
      have hcr := (hg.2.2 _ (List.getElem_mem hlt)).1
      refine call_of (norm_c hp) ?_
      rintro _ h10 ⟨r12, rfl, n10, x10⟩
      have st := st.new x10 n10
      simp only [List.nil_append, List.cons_append] at st
      have en : normP cs[i] = (nrm cs[i], alwaysC cs[i], 0) := by unfold normP; rw [if_pos hcr]
      rw [en] at st ⊢
      refine jn_in fun J hJ => ?_
      have fin : ∀ s' h', Hs [([], h)] [lli cs s, cF b0 n s] [cl b1 ty_formula_Formula [.int .i64 0, .slice none 0 0], cl b6 ty_formula_Formula [.int .i64 n, .slice s'.a s'.len s'.cap], llo (((cs.take (i + 1)).filter fun c => !alwaysC c).map nrm) s'] h' → J () h' :=
        fun s' h' st => hJ _ _ (hX _ _ _ ⟨i + 1, s', rfl, by omega, st, rfl⟩ (by omega))
      rw [take_succ_getE hlt, List.filter_append, List.map_append] at fin
      simp only
      by_cases hal : alwaysC cs[i] = true
      · rw [hal, Bool.not_true, brB_false]
        rw [List.filter_cons_of_neg (p := fun c : List Int => !alwaysC c) (by rw [hal]; decide), List.filter_nil, List.map_nil, List.append_nil] at fin
        exact fin s' _ (st.drop 3 rfl)
      · rw [Bool.not_eq_true] at hal
        rw [hal, Bool.not_false, brB_true]
        rw [List.filter_cons_of_pos (p := fun c : List Int => !alwaysC c) (by rw [hal]; rfl), List.filter_nil] at fin
        rw [st.lds 1 1 rfl rfl]
        refine st.nw fun b16 h12 st => ?_
        simp only [List.nil_append, List.cons_append] at st
        refine Hs.apdG (I := fun c p => lo c p) (x := nrm cs[i]) (p := r12) st 2 4 3 rfl rfl rfl (by decide) (by decide) (by omega) (by decide) rfl fun s17 h13 st => ?_
        simp only [List.set_cons_zero, List.set_cons_succ] at st
        refine st.st1 1 1 rfl (by simp) fun h14 st => ?_
        simp only [List.set_cons_zero, List.set_cons_succ] at st
        exact fin s17 _ ((st.drop 4 rfl).drop 3 rfl)
    rw [decide_eq_false (show ¬ (i : Int) < (s.len : Int) by omega), brB_false]
    rw [List.take_of_length_le (by omega)] at st hfl
    have hM : ∀ x ∈ (cs.filter fun c => !alwaysC c).map nrm, Nf x := fun x hx => by
      obtain ⟨y, hy, rfl⟩ := List.mem_map.1 hx
      exact nf_nrm (hg.2.2 y (List.mem_filter.1 hy).1).1
    have hnl : normL cs = sortC compareP ((cs.filter fun c => !alwaysC c).map nrm) := rfl
    rw [hnl] at hK
    generalize (cs.filter fun c => !alwaysC c).map nrm = xs at *
    rw [st.lds 1 1 rfl rfl]
    refine S_slices_SortFunc_clauses_Clause_clauses_Clause (a0 := s') (a1 := .func (.func fn_clauses_Compare) #[] #[]) _ ?_
    unfold F_slices_SortFunc_clauses_Clause_clauses_Clause
    have hnf0 : Nf [] := by have := nf_nrm (c := []) (by rfl); rwa [List.eq_nil_of_length_eq_zero (show (nrm []).length = 0 by have := nrm_length ([] : List Int); simp only [List.length_nil] at this; omega)] at this
    refine Hs.sortG sorts_clauses totC [] hnf0 (det_osl encIi) st 2 rfl hM (by omega) (fun x y p q h' hx hy hp hq _ => ?_) fun ps ys val h8 sg st => ?_
    · refine callF_func (call_of (compare_c hp.rsl hq.rsl) fun r h2 ⟨e, e2⟩ => ⟨?_, e2⟩)
      have e : r = compareP x y := e
      rw [e]
    · simp only [List.set_cons_zero, List.set_cons_succ, List.nil_append, List.cons_append] at st
      show ldT .sl _ _ _
      rw [st.lds 1 1 rfl rfl]
      refine compact_clauses (s := s') ?_
      refine Hs.compactG totC sg st 2 3 rfl rfl (by decide) (by omega) (fun x y p q h' hx hy hp hq _ => ?_) fun s'' h9 st => ?_
      · exact callF_of (norm1F hp.rsl hq.rsl (by have := rightC_len (hM x hx).1; omega)) fun r h2 ⟨e, e2⟩ => ⟨e, by rw [e2]; exact Ext.refl' _ _⟩
      · refine st.st1 1 1 rfl (by simp) fun h10 st => ?_
        simp only [List.set_cons_zero, List.set_cons_succ] at st
        refine ldF (s := s'') (st.blk 1 rfl) ?_
        refine st.st1 0 0 rfl (by simp) fun h11 st => ?_
        refine st.st1 0 1 rfl (by simp) fun h12 st => ?_
        refine ldF (s := s'') (st.blk 0 rfl) ?_
        exact hK _ _ ⟨s'', rfl, st.res (by simp) 2 rfl, st.frame (by simp)⟩
  · rw [show ((checkP n cs).2 != 0) = true by simpa using hc, brB_true]
    refine st.st1 0 0 rfl (by simp) fun h5 st => ?_
    refine st.st1 0 1 rfl (by simp) fun h6 st => ?_
    refine ldF (s := ⟨none, 0, 0⟩) (st.blk 0 rfl) ?_
    have ea : normF n cs = ((0, []), (checkP n cs).2) := by unfold normF; rw [if_pos hc]
    refine hK _ _ ⟨⟨none, 0, 0⟩, by rw [ea], ?_, st.frame (by simp)⟩
    rw [ea]; exact New.rsg (I := fun c p => lo c p) (t := 0) (osg_nil _ _)

end Go.Proofs.S
