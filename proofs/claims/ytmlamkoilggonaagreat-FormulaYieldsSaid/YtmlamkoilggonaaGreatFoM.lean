/-
  The laws of the formulas: Of, Made, collected, less: contracts.
-/
import Derived.Test.YtmlamkoilggonaaGreatFoI
import Derived.Test.YtmlamkoilggonaaGreatClR
set_option linter.unusedVariables false
set_option linter.unusedSimpArgs false
namespace Go.Proofs.S
open Go Go.Sx Go.Proofs Go.Cl

variable {h : Heap} {c d : List Int} {s s2 : Sl} {fr : Fr} {G As : List Asn} {m : List Bool} {sm : Sl}

theorem lawOf_c {n : Int} {cs : List (List Int)} (hA : At h (lli cs s)) (hl : cs.length ≤ 1048576) (hc : ∀ c ∈ cs, c.length ≤ 1048576) :
    callT Tryz.prog fn_salvorlaw05_Of #[.int .i64 n, .slice s.a s.len s.cap] (.agg (.cons (.int .i64) (.cons .sl .nil))) (fun r h' => ∃ s', r = (n, s', ()) ∧ New h.size h' (llo cs s') ∧ Ext [] h h') h := by
  refine callT_gen fun K hK => S_salvorlaw05_Of (a0 := n) (a1 := s) K ?_
  unfold F_salvorlaw05_Of
  have st := Hs.start h [lli cs s] (by simp [hA])
  have l1 := rsg_len hA
  refine st.nw fun b0 h1 st => ?_
  refine st.nw fun b1 h2 st => ?_
  simp only [addr_add, Nat.zero_add, List.nil_append, List.cons_append] at st ⊢
  refine st.st1 1 0 rfl (by simp) fun h4 st => ?_
  refine st.st1 1 1 rfl (by simp) fun h5 st => ?_
  simp only [List.set_cons_zero, List.set_cons_succ] at st
  have st := st.nilg (fun c p => lo c p) ty_clauses_Clause none
  simp only [List.nil_append, List.cons_append] at st
  refine lfp_invh (I := fun m σ h' => ∃ (i : Nat) (s' : Sl), σ = ((i : Int), ()) ∧ i ≤ cs.length ∧
      Hs [([], h)] [lli cs s] [cl b0 ty_formula_Formula [.int .i64 0, .slice none 0 0], cl b1 ty_formula_Formula [.int .i64 n, .slice s'.a s'.len s'.cap], llo (cs.take i) s'] h' ∧ m = cs.length - i)
    ⟨_, 0, ⟨none, 0, 0⟩, rfl, by omega, st, rfl⟩ ?_
  clear st
  rintro m1 σ h6 X ⟨i, s', rfl, hi, st, em⟩ hX
  simp only
  by_cases hlt : i < cs.length
  · rw [show decide ((i : Int) < (s.len : Int)) = true by rw [l1]; exact dlt_t hlt, brB_true, inc_i (show i < 4611686018427387904 by omega)]
    refine rdG (st.fz 0 rfl) hlt fun p hp => ?_
    rw [st.lds 1 1 rfl rfl]
    refine call_of (clause_c hp (hc _ (List.getElem_mem hlt))) ?_
    rintro r7 h7 ⟨n7, x7⟩
    have st := st.new x7 n7
    simp only [List.nil_append, List.cons_append] at st
    rw [st.ck 1 1 rfl rfl]
    refine st.nw fun b8 h8 st => ?_
    simp only [List.nil_append, List.cons_append] at st
    refine Hs.apdG (I := fun c p => lo c p) (x := cs[i]) (p := r7) st 2 4 3 rfl rfl rfl (by decide) (by decide) (by simp; omega) (by decide) rfl fun s9 h9 st => ?_
    simp only [List.set_cons_zero, List.set_cons_succ] at st
    refine st.st1 1 1 rfl (by simp) fun h10 st => ?_
    simp only [List.set_cons_zero, List.set_cons_succ] at st
    refine hX _ _ _ ⟨i + 1, s9, rfl, by omega, ?_, rfl⟩ (by omega)
    rw [take_succ_getE hlt]; exact (st.drop 4 rfl).drop 3 rfl
  · rw [show decide ((i : Int) < (s.len : Int)) = false by rw [l1]; exact dlt_f hlt, brB_false]
    rw [List.take_of_length_le (by omega)] at st
    refine ldF (s := s') (st.blk 1 rfl) ?_
    refine st.st1 0 0 rfl (by simp) fun h7 st => ?_
    refine st.st1 0 1 rfl (by simp) fun h8 st => ?_
    refine ldF (s := s') (st.blk 0 rfl) ?_
    exact hK _ _ ⟨s', rfl, st.res (by simp) 2 rfl, st.frame (by simp)⟩

/-- What a formula is made of. -/
abbrev llu (cs : List (List Int)) (s : Sl) : Asn := rsg (fun c p => lu c p) cs s
def madeF (cs : List (List Int)) : List (List Int) := (cs.take 30).map madeP
theorem madeF_len (cs : List (List Int)) : (madeF cs).length ≤ 30 := by unfold madeF; simp; omega

theorem rsgcap {β : Type} {I : β → Sl → Asn} {xs : List β} (hA : At h (rsg I xs s)) : s.len ≤ s.cap := by
  obtain ⟨ps, _, ho, _⟩ := rsg_open hA
  exact rsl_cap ho
theorem rsgtake {β : Type} {I : β → Sl → Asn} {xs : List β} (hA : At h (rsg I xs s)) {n : Nat} (hn : n ≤ xs.length) : At h (rsg I (xs.take n) (slR s 0 n 1)) := by
  obtain ⟨ps, hl, ho, hx⟩ := rsg_open hA
  have h1 := rsl_sub ho (l := 0) (m := n) (by omega) (by omega)
  rw [List.drop_zero] at h1
  refine rsg_at (ps := ps.take n) (by simp; omega) h1 fun i h1 h2 => ?_
  rw [List.getElem_take, List.getElem_take]
  exact hx i _ _

theorem lawMade_c {cs : List (List Int)} (hA : At h (llu cs s)) (hu : ∀ c ∈ cs, U8 c) :
    callT Tryz.prog fn_salvorlaw05_Made #[.slice s.a s.len s.cap] (.agg (.cons (.int .i64) (.cons .sl .nil))) (fun r h' => ∃ s', r = (8, s', ()) ∧ New h.size h' (llo (madeF cs) s') ∧ Ext [] h h') h := by
  refine callT_gen fun K hK => S_salvorlaw05_Made (a0 := s) K ?_
  unfold F_salvorlaw05_Made
  have l1 := rsg_len hA
  have c1 := rsgcap hA
  have hS : At h (llu (cs.take 30) (slR ⟨s.a, s.len, s.cap⟩ 0 (min cs.length 30) 1)) := by
    have := rsgtake hA (n := min cs.length 30) (by omega)
    have e : List.take (min cs.length 30) cs = cs.take 30 := by
      rcases Nat.le_total cs.length 30 with k | k
      · rw [Nat.min_eq_left k, List.take_length, List.take_of_length_le k]
      · rw [Nat.min_eq_right k]
    rw [e] at this; exact this
  have em : (if (30 : Int) < (s.len : Int) then (30 : Int) else (s.len : Int)) = ((min cs.length 30 : Nat) : Int) := by split <;> omega
  have hcap : min cs.length 30 ≤ s.cap := by omega
  rw [em]
  have hn : ∀ {K : Sl → HP} {h' : Heap}, K (slR ⟨s.a, s.len, s.cap⟩ 0 (min cs.length 30) 1) h' → slH ⟨s.a, s.len, s.cap⟩ ((min cs.length 30 : Nat) : Int) 1 K h' := fun hk => ⟨Int.natCast_nonneg _, Int.ofNat_le.2 hcap, by rw [Int.toNat_natCast]; exact hk⟩
  unfold madeF at hK
  have hu2 : ∀ c ∈ cs.take 30, U8 c := fun n hn => hu n (List.mem_of_mem_take hn)
  have hl2 : (cs.take 30).length ≤ 30 := by simp; omega
  generalize cs.take 30 = ds at *
  have l3 := rsg_len hS
  generalize hs0 : slR ⟨s.a, s.len, s.cap⟩ 0 (min cs.length 30) 1 = s0 at *
  have st := Hs.start h [llu ds s0] (by simp [hS])
  refine st.nw fun b0 h1 st => ?_
  refine st.nw fun b1 h2 st => ?_
  simp only [addr_add, Nat.zero_add, List.nil_append, List.cons_append] at st ⊢
  refine st.st1 1 0 rfl (by simp) fun h4 st => ?_
  refine st.st1 1 1 rfl (by simp) fun h5 st => ?_
  simp only [List.set_cons_zero, List.set_cons_succ] at st
  refine hn ?_
  have st := st.nilg (fun c p => lo c p) ty_clauses_Clause none
  simp only [List.nil_append, List.cons_append] at st
  refine lfp_invh (I := fun m σ h' => ∃ (i : Nat) (s' : Sl), σ = ((i : Int), ()) ∧ i ≤ ds.length ∧
      Hs [([], h)] [llu ds s0] [cl b0 ty_formula_Formula [.int .i64 0, .slice none 0 0], cl b1 ty_formula_Formula [.int .i64 8, .slice s'.a s'.len s'.cap], llo ((ds.take i).map madeP) s'] h' ∧ m = ds.length - i)
    ⟨_, 0, ⟨none, 0, 0⟩, rfl, by omega, st, rfl⟩ ?_
  clear st
  rintro m1 σ h6 X ⟨i, s', rfl, hi, st, em⟩ hX
  simp only
  by_cases hlt : i < ds.length
  · rw [show decide ((i : Int) < (s0.len : Int)) = true by rw [l3]; exact dlt_t hlt, brB_true, inc_i (show i < 4611686018427387904 by omega)]
    refine rdG (st.fz 0 rfl) hlt fun p hp => ?_
    rw [st.lds 1 1 rfl rfl]
    refine call_of (made_c hp (hu2 _ (List.getElem_mem hlt))) ?_
    rintro r7 h7 ⟨n7, x7⟩
    have st := st.new x7 n7
    simp only [List.nil_append, List.cons_append] at st
    rw [st.ck 1 1 rfl rfl]
    refine st.nw fun b8 h8 st => ?_
    simp only [List.nil_append, List.cons_append] at st
    refine Hs.apdG (I := fun c p => lo c p) (x := madeP ds[i]) (p := r7) st 2 4 3 rfl rfl rfl (by decide) (by decide) (by simp; omega) (by decide) rfl fun s9 h9 st => ?_
    simp only [List.set_cons_zero, List.set_cons_succ] at st
    refine st.st1 1 1 rfl (by simp) fun h10 st => ?_
    simp only [List.set_cons_zero, List.set_cons_succ] at st
    refine hX _ _ _ ⟨i + 1, s9, rfl, by omega, ?_, rfl⟩ (by omega)
    rw [take_succ_getE hlt, List.map_append]; exact (st.drop 4 rfl).drop 3 rfl
  · rw [show decide ((i : Int) < (s0.len : Int)) = false by rw [l3]; exact dlt_f hlt, brB_false]
    rw [List.take_of_length_le (by omega)] at st
    refine ldF (s := s') (st.blk 1 rfl) ?_
    refine st.st1 0 0 rfl (by simp) fun h7 st => ?_
    refine st.st1 0 1 rfl (by simp) fun h8 st => ?_
    refine ldF (s := s') (st.blk 0 rfl) ?_
    exact hK _ _ ⟨s', rfl, st.res (by simp) 2 rfl, st.frame (by simp)⟩

/-! ### collected, less -/

theorem modelsF_row {v : Nat} {cs : List (List Int)} {m : List Bool} (h : m ∈ modelsF v cs) : m.length = v ∧ failsGo m 0 cs < 0 := by
  unfold modelsF at h
  obtain ⟨a, b⟩ := List.mem_filter.1 h
  exact ⟨Cr.mem_allB.1 a, of_decide_eq_true b⟩

theorem collected_c {v : Nat} {cs : List (List Int)} (hA : At h (lli cs s)) (hg : GoodF v cs) (hv : v ≤ 8) :
    callT Tryz.prog fn_salvorlaw05_collected #[.agg #[.int .i64 v, .slice s.a s.len s.cap]] (.tup (.cons .sl (.cons .bool .nil)))
      (fun r h' => ∃ s', r = (s', true, ()) ∧ New h.size h' (osg (fun c p => ob c p) ty_sl_bool (modelsF v cs) s') ∧ Ext [] h h') h := by
  refine callT_gen fun K hK => S_salvorlaw05_collected (a0 := ((v : Int), s, ())) K ?_
  unfold F_salvorlaw05_collected
  show (nw _ _ _) h
  have st := Hs.start h [lli cs s] (by simp [hA])
  refine st.nw fun b0 h1 st => ?_
  refine st.nw fun b1 h2 st => ?_
  refine st.nw fun b2 h3 st => ?_
  simp only [List.nil_append, List.cons_append] at st
  refine ldF (s := s) (st.blk 0 rfl) ?_
  have hc := check_good.2 hg
  have hle : (modelsF v cs).length ≤ 256 := by
    have h1 : (modelsF v cs).length ≤ (Cr.allB v).length := List.length_filter_le _ _
    rw [Cr.allB_len] at h1
    have hN2 : 2 ^ v ≤ 2 ^ 8 := Nat.pow_le_pow_right (by decide) hv
    have e8 : (2 : Nat) ^ 8 = 256 := by decide
    omega
  refine Hs.Models (n := (v : Int)) (cs := cs) st (st.fz 0 rfl) (fun hc' => absurd hc hc') (fun _ hn => by omega) (fun v' hv' hc hv16 b s' h5 st => ?_)
  have : v' = v := by omega
  subst this
  simp only
  rw [show ((0 : Int) != 0) = false from rfl, brB_false]
  refine ⟨.inr ⟨_, _, _, rfl⟩, ?_⟩
  show (brB false _ _) h5
  rw [brB_false]
  refine st.nw fun b10 h6 st => ?_
  have st := st.nilg (fun c p => ob c p) ty_sl_bool none
  simp only [List.nil_append, List.cons_append] at st
  refine st.rangeG (modNx v' cs) (modGf v' cs) (modFin v' cs) (models_hit 1 2 rfl rfl hg hv16) (fun _ _ _ _ => rfl)
    (fun pre Bs => ∃ s' : Sl, Bs = [cl b0 ty_formula_Formula [.int .i64 v', .slice s.a s.len s.cap], cl b1 ty_sl_sl_bool [.slice none 0 0], cl b2 ty_bool [.bool false], cl b10 ty_sl_sl_bool [.slice s'.a s'.len s'.cap], osg (fun c p => ob c p) ty_sl_bool ((modelsF v' cs).take pre.length) s'])
    (fun _ _ => False) ⟨⟨none, 0, 0⟩, rfl⟩ ?_ ?_ (fun _ _ hf => hf.elim) (fun i id K hi => by simp at hi)
  · rintro pre ⟨x, ⟨⟩⟩ Bs B hb hnx ⟨s15, rfl⟩ st next jump hnext hjump
    have hlt : pre.length < (modelsF v' cs).length := hnx
    have eg : modGf v' cs pre (x, ()) = ob (modelsF v' cs)[pre.length] x := by
      show ob ((modelsF v' cs).getD pre.length []) x = _
      rw [List.getD_eq_getElem?_getD, List.getElem?_eq_getElem hlt]; rfl
    rw [eg] at st
    simp only [List.nil_append, List.cons_append] at st
    simp only
    rw [st.lds 3 0 rfl rfl]
    have l15 := rsg_len (st.own 4 rfl).rsg
    rw [List.length_take] at l15
    simp only
    rw [decide_eq_false (show ¬ (s15.len : Int) > 255 by omega), brB_false, st.lds 3 0 rfl rfl]
    refine st.nw fun b17 h10 st => ?_
    simp only [List.nil_append, List.cons_append] at st
    refine Hs.apdG (I := fun c p => ob c p) (x := (modelsF v' cs)[pre.length]) (p := x) st 4 6 5 rfl rfl rfl (by decide) (by decide) (by simp; omega) (by decide) rfl fun s24 h11 st => ?_
    simp only [List.set_cons_zero, List.set_cons_succ] at st
    refine st.st1 3 0 rfl (by simp) fun h12 st => ?_
    simp only [List.set_cons_zero, List.set_cons_succ] at st
    have st := (st.drop 6 rfl).drop 5 rfl
    simp only [List.eraseIdx_cons_zero, List.eraseIdx_cons_succ] at st
    refine hnext _ _ ⟨s24, ?_⟩ st
    rw [List.length_append, List.length_singleton, take_succ_getE hlt]
  · rintro pre Bs h10 hfin ⟨s15, rfl⟩ st
    have hfin : pre.length = (modelsF v' cs).length := hfin
    rw [hfin, List.take_length] at st
    rw [st.lds 3 0 rfl rfl]
    refine st.st1 1 0 rfl (by simp) fun h11 st => ?_
    refine st.st1 2 0 rfl (by simp) fun h12 st => ?_
    simp only [List.set_cons_zero, List.set_cons_succ] at st
    intro h13 hM
    have st := st.marked hM
    rw [st.lds 1 0 rfl rfl, st.ldb 2 0 rfl rfl]
    exact hK _ _ ⟨s15, rfl, st.res (by simp) 4 rfl, st.frame (by simp)⟩

end Go.Proofs.S

/-
  The laws of the formulas: the examples.
-/
set_option linter.unusedVariables false
set_option linter.unusedSimpArgs false
namespace Go.Proofs.S
open Go Go.Sx Go.Proofs Go.Cl

variable {h : Heap} {c d : List Int} {s s2 : Sl} {fr : Fr} {G As : List Asn} {m : List Bool} {sm : Sl} {k k2 : List Bool}

theorem bne_iffB (x y : Bool) : (!(x == y)) = true ↔ x ≠ y := by cases x <;> cases y <;> simp
theorem eq_of_iff {b : Bool} {p : Prop} [Decidable p] (h : b = true ↔ p) : b = decide p := by
  cases b with
  | true => exact (decide_eq_true (h.1 rfl)).symm
  | false => exact (decide_eq_false fun hp => by cases h.2 hp).symm
theorem equal_bools (hA : At h (lb k s)) (hB : At h (lb k2 s2)) (hl : k.length ≤ 1099511627776) : callT Tryz.prog fn_slices_Equal_bool_bool #[.slice s.a s.len s.cap, .slice s2.a s2.len s2.cap] .bool (fun r h' => r = decide (k = k2) ∧ h' = h) h :=
  callT_gen fun K hK => S_slices_Equal_bool_bool (a0 := s) (a1 := s2) K (w_equal (τ := .bool) bne_iffB hA hB hl fun b hb => hK _ _ ⟨eq_of_iff hb, rfl⟩)

theorem ckF {b : Nat} {t : TypeId} {n : Int} {K : HP} (hb : Blk h b t [.int .i64 n, .slice s.a s.len s.cap]) (hK : K h) : ckA ⟨b, 0, none⟩ [.int .i64 n, .slice s.a s.len s.cap] K h :=
  ⟨CellsAt_blk' _ hb 0 (by
    intro j hj
    match j, hj with
    | 0, _ => rfl
    | 1, _ => rfl
    | j + 2, hj => exact absurd (show j + 2 < 2 from hj) (by omega)), hK⟩
theorem llo_at {cs : List (List Int)} (hA : At h (llo cs s)) : At h (lli cs s) := rsgA_mono (fun c p S h q => osl_rsl q) (At.rsg hA)
theorem lgo_at {cs : List (List Int)} (hA : At h (lgo cs s)) : At h (lli cs s) := rsgA_mono (fun c p S h q => osl_rsl q) hA
theorem nil_li : At h (li [] ⟨none, 0, 0⟩) := (osl_nil (t := 0) (enc := i64.enc) (a := none) 0 h).at.rsl
theorem nil_lli : At h (lli [] ⟨none, 0, 0⟩) := llo_at (osg_nil (a := none) 0 h).at
theorem rows1_at {p : Sl} (hA : At h (rsl Ty.sl.enc [p] s)) (h1 : At h (li c p)) : At h (lli [c] s) :=
  rsg_at (ps := [p]) rfl hA fun i h2 h3 => by
    match i, h2 with
    | 0, _ => exact h1
theorem rows2_at {p q : Sl} (hA : At h (rsl Ty.sl.enc [p, q] s)) (h1 : At h (li c p)) (h2 : At h (li d q)) : At h (lli [c, d] s) :=
  rsg_at (ps := [p, q]) rfl hA fun i h3 h4 => by
    match i, h3 with
    | 0, _ => exact h1
    | 1, _ => exact h2
theorem rows3_at {p q r : Sl} {e : List Int} (hA : At h (rsl Ty.sl.enc [p, q, r] s)) (h1 : At h (li c p)) (h2 : At h (li d q)) (h3 : At h (li e r)) : At h (lli [c, d, e] s) :=
  rsg_at (ps := [p, q, r]) rfl hA fun i h4 h5 => by
    match i, h4 with
    | 0, _ => exact h1
    | 1, _ => exact h2
    | 2, _ => exact h3

theorem fawake_c : callT Tryz.prog fn_salvorlaw05_awake #[] .bool (fun r h' => r = true ∧ Ext [] h h') h := by
  refine callT_gen fun K hK => S_salvorlaw05_awake K ?_
  unfold F_salvorlaw05_awake
  have e1 : countF 3 [[1, 2], [-1, 3]] = (4, 0) := by rfl
  have e2 : firstF 3 [[1, 2], [-1, 3]] = ([false, true, false], true, 0) := by rfl
  have e3 : failsP 3 [[1, 2], [-1, 3]] [true, false, false] = (1, true, 0) := by rfl
  have e4 : assignF 3 [[1, 2], [-1, 3]] 1 = ((3, [[3]]), 0) := by rfl
  have e5 : assignF 3 [[1, 2], [-1, 3]] (-1) = ((3, [[2]]), 0) := by rfl
  have e6 : normF 3 [[2, 1, 2], [3, -3], [1, 2]] = ((3, [[1, 2]]), 0) := by
    have : compareP = fun a b => if rightC a && rightC b then (if cmpI (nrm a).length (nrm b).length ≠ 0 then cmpI (nrm a).length (nrm b).length else cmpL cmpLit (nrm a) (nrm b)) else 0 := rfl
    unfold normF normL
    rw [this, nrm_T]; rfl
  have e7 : countF 3 [] = (8, 0) := by rfl
  have e8 : countF 3 [[]] = (0, 0) := by rfl
  have st := Hs.start h [] (by simp)
  refine st.nw fun b0 _ st => ?_
  have st := (st.asSl 0 i64.enc [1, 2] rfl rfl).freeze 0 rfl
  try simp only [List.nil_append, List.cons_append, List.set_cons_zero, List.set_cons_succ, List.eraseIdx_cons_zero] at st
  refine st.nw fun b1 _ st => ?_
  have st := (st.asSl 0 i64.enc [-1, 3] rfl rfl).freeze 0 rfl
  try simp only [List.nil_append, List.cons_append, List.set_cons_zero, List.set_cons_succ, List.eraseIdx_cons_zero] at st
  refine st.nw fun b2 _ st => ?_
  have st := (st.asSl 0 Ty.sl.enc [(⟨some ⟨b0, 0, none⟩, 2, 2⟩ : Sl), (⟨some ⟨b1, 0, none⟩, 2, 2⟩ : Sl)] rfl rfl).freeze 0 rfl
  try simp only [List.nil_append, List.cons_append, List.set_cons_zero, List.set_cons_succ, List.eraseIdx_cons_zero] at st
  refine call_of (lawOf_c (n := 3) (cs := [[1, 2], [-1, 3]]) (s := (⟨some ⟨b2, 0, none⟩, 2, 2⟩ : Sl)) (rows2_at (s := (⟨some ⟨b2, 0, none⟩, 2, 2⟩ : Sl)) (st.fz 2 rfl).rsl (st.fz 0 rfl).rsl (st.fz 1 rfl).rsl) (by decide) (by decide)) ?_
  rintro _ _ ⟨r3, rfl, nn, xx⟩
  have st := (st.new xx nn).freeze 0 rfl
  clear nn xx
  try simp only [List.nil_append, List.cons_append, List.set_cons_zero, List.set_cons_succ, List.eraseIdx_cons_zero] at st
  refine st.nw fun b4 _ st => ?_
  try simp only [List.nil_append, List.cons_append, List.set_cons_zero, List.set_cons_succ, List.eraseIdx_cons_zero] at st
  simp only [addr_add, Nat.zero_add]
  refine st.st1 0 0 rfl (by simp) fun _ st => ?_
  refine st.st1 0 1 rfl (by simp) fun _ st => ?_
  have st := st.freeze 0 rfl
  try simp only [List.nil_append, List.cons_append, List.set_cons_zero, List.set_cons_succ, List.eraseIdx_cons_zero] at st
  refine ldF (s := r3) (st.fblk 4 rfl) ?_
  refine call_of (count_c (n := 3) (cs := [[1, 2], [-1, 3]]) (llo_at (st.fz 3 rfl))) ?_
  rintro _ _ ⟨rfl, xx⟩
  have st := st.ext xx
  clear xx
  rw [e1]
  refine ldF (s := r3) (st.fblk 4 rfl) ?_
  refine call_of (first_c (n := 3) (cs := [[1, 2], [-1, 3]]) (llo_at (st.fz 3 rfl))) ?_
  rintro _ _ ⟨r8, rfl, nn, xx⟩
  have st := (st.new xx nn).freeze 0 rfl
  clear nn xx
  try simp only [List.nil_append, List.cons_append, List.set_cons_zero, List.set_cons_succ, List.eraseIdx_cons_zero] at st
  rw [e2] at st ⊢
  refine ldF (s := r3) (st.fblk 4 rfl) ?_
  refine st.nw fun b10 _ st => ?_
  have st := (st.asSl 0 Ty.bool.enc [true, false, false] rfl rfl).freeze 0 rfl
  try simp only [List.nil_append, List.cons_append, List.set_cons_zero, List.set_cons_succ, List.eraseIdx_cons_zero] at st
  refine call_of (Fails_c (n := 3) (cs := [[1, 2], [-1, 3]]) (sm := (⟨some ⟨b10, 0, none⟩, 3, 3⟩ : Sl)) (m := [true, false, false]) (llo_at (st.fz 3 rfl)) (st.fz 6 rfl).rsl) ?_
  rintro _ _ ⟨rfl, xx⟩
  have st := st.ext xx
  clear xx
  rw [e3]
  refine ldF (s := r3) (st.fblk 4 rfl) ?_
  refine call_of (assign_c (n := 3) (cs := [[1, 2], [-1, 3]]) (llo_at (st.fz 3 rfl)) 1) ?_
  rintro _ _ ⟨r13, rfl, nn, xx⟩
  have st := (st.new xx nn).freeze 0 rfl
  clear nn xx
  try simp only [List.nil_append, List.cons_append, List.set_cons_zero, List.set_cons_succ, List.eraseIdx_cons_zero] at st
  rw [e4] at st ⊢
  refine st.nw fun b14 _ st => ?_
  try simp only [List.nil_append, List.cons_append, List.set_cons_zero, List.set_cons_succ, List.eraseIdx_cons_zero] at st
  simp only [addr_add, Nat.zero_add]
  refine st.st1 0 0 rfl (by simp) fun _ st => ?_
  refine st.st1 0 1 rfl (by simp) fun _ st => ?_
  have st := st.freeze 0 rfl
  try simp only [List.nil_append, List.cons_append, List.set_cons_zero, List.set_cons_succ, List.eraseIdx_cons_zero] at st
  refine ldF (s := r3) (st.fblk 4 rfl) ?_
  refine call_of (assign_c (n := 3) (cs := [[1, 2], [-1, 3]]) (llo_at (st.fz 3 rfl)) (-1)) ?_
  rintro _ _ ⟨r16, rfl, nn, xx⟩
  have st := (st.new xx nn).freeze 0 rfl
  clear nn xx
  try simp only [List.nil_append, List.cons_append, List.set_cons_zero, List.set_cons_succ, List.eraseIdx_cons_zero] at st
  rw [e5] at st ⊢
  refine st.nw fun b17 _ st => ?_
  try simp only [List.nil_append, List.cons_append, List.set_cons_zero, List.set_cons_succ, List.eraseIdx_cons_zero] at st
  simp only [addr_add, Nat.zero_add]
  refine st.st1 0 0 rfl (by simp) fun _ st => ?_
  refine st.st1 0 1 rfl (by simp) fun _ st => ?_
  have st := st.freeze 0 rfl
  try simp only [List.nil_append, List.cons_append, List.set_cons_zero, List.set_cons_succ, List.eraseIdx_cons_zero] at st
  refine st.nw fun b18 _ st => ?_
  have st := (st.asSl 0 i64.enc [2, 1, 2] rfl rfl).freeze 0 rfl
  try simp only [List.nil_append, List.cons_append, List.set_cons_zero, List.set_cons_succ, List.eraseIdx_cons_zero] at st
  refine st.nw fun b19 _ st => ?_
  have st := (st.asSl 0 i64.enc [3, -3] rfl rfl).freeze 0 rfl
  try simp only [List.nil_append, List.cons_append, List.set_cons_zero, List.set_cons_succ, List.eraseIdx_cons_zero] at st
  refine st.nw fun b20 _ st => ?_
  have st := (st.asSl 0 i64.enc [1, 2] rfl rfl).freeze 0 rfl
  try simp only [List.nil_append, List.cons_append, List.set_cons_zero, List.set_cons_succ, List.eraseIdx_cons_zero] at st
  refine st.nw fun b21 _ st => ?_
  have st := (st.asSl 0 Ty.sl.enc [(⟨some ⟨b18, 0, none⟩, 3, 3⟩ : Sl), (⟨some ⟨b19, 0, none⟩, 2, 2⟩ : Sl), (⟨some ⟨b20, 0, none⟩, 2, 2⟩ : Sl)] rfl rfl).freeze 0 rfl
  try simp only [List.nil_append, List.cons_append, List.set_cons_zero, List.set_cons_succ, List.eraseIdx_cons_zero] at st
  refine call_of (lawOf_c (n := 3) (cs := [[2, 1, 2], [3, -3], [1, 2]]) (s := (⟨some ⟨b21, 0, none⟩, 3, 3⟩ : Sl)) (rows3_at (s := (⟨some ⟨b21, 0, none⟩, 3, 3⟩ : Sl)) (st.fz 14 rfl).rsl (st.fz 11 rfl).rsl (st.fz 12 rfl).rsl (st.fz 13 rfl).rsl) (by decide) (by decide)) ?_
  rintro _ _ ⟨r22, rfl, nn, xx⟩
  have st := (st.new xx nn).freeze 0 rfl
  clear nn xx
  try simp only [List.nil_append, List.cons_append, List.set_cons_zero, List.set_cons_succ, List.eraseIdx_cons_zero] at st
  refine call_of (fnorm_c (n := 3) (cs := [[2, 1, 2], [3, -3], [1, 2]]) (llo_at (st.fz 15 rfl))) ?_
  rintro _ _ ⟨r23, rfl, nn, xx⟩
  have st := (st.new xx nn).freeze 0 rfl
  clear nn xx
  try simp only [List.nil_append, List.cons_append, List.set_cons_zero, List.set_cons_succ, List.eraseIdx_cons_zero] at st
  rw [e6] at st ⊢
  refine st.nw fun b24 _ st => ?_
  try simp only [List.nil_append, List.cons_append, List.set_cons_zero, List.set_cons_succ, List.eraseIdx_cons_zero] at st
  simp only [addr_add, Nat.zero_add]
  refine st.st1 0 0 rfl (by simp) fun _ st => ?_
  refine st.st1 0 1 rfl (by simp) fun _ st => ?_
  have st := st.freeze 0 rfl
  try simp only [List.nil_append, List.cons_append, List.set_cons_zero, List.set_cons_succ, List.eraseIdx_cons_zero] at st
  refine call_of (lawOf_c (n := 3) (cs := []) (s := ⟨none, 0, 0⟩) nil_lli (by decide) (by decide)) ?_
  rintro _ _ ⟨r25, rfl, nn, xx⟩
  have st := (st.new xx nn).freeze 0 rfl
  clear nn xx
  try simp only [List.nil_append, List.cons_append, List.set_cons_zero, List.set_cons_succ, List.eraseIdx_cons_zero] at st
  refine call_of (count_c (n := 3) (cs := []) (llo_at (st.fz 18 rfl))) ?_
  rintro _ _ ⟨rfl, xx⟩
  have st := st.ext xx
  clear xx
  rw [e7]
  refine st.nw fun b27 _ st => ?_
  have st := (st.asSl 0 Ty.sl.enc [(⟨none, 0, 0⟩ : Sl)] rfl rfl).freeze 0 rfl
  try simp only [List.nil_append, List.cons_append, List.set_cons_zero, List.set_cons_succ, List.eraseIdx_cons_zero] at st
  refine call_of (lawOf_c (n := 3) (cs := [[]]) (s := (⟨some ⟨b27, 0, none⟩, 1, 1⟩ : Sl)) (rows1_at (s := (⟨some ⟨b27, 0, none⟩, 1, 1⟩ : Sl)) (st.fz 19 rfl).rsl nil_li) (by decide) (by decide)) ?_
  rintro _ _ ⟨r28, rfl, nn, xx⟩
  have st := (st.new xx nn).freeze 0 rfl
  clear nn xx
  try simp only [List.nil_append, List.cons_append, List.set_cons_zero, List.set_cons_succ, List.eraseIdx_cons_zero] at st
  refine call_of (count_c (n := 3) (cs := [[]]) (llo_at (st.fz 20 rfl))) ?_
  rintro _ _ ⟨rfl, xx⟩
  have st := st.ext xx
  clear xx
  rw [e8]
  show (brB true (brB true (brB true _ _) _) _) _
  rw [brB_true, brB_true, brB_true]
  refine st.nw fun b30 _ st => ?_
  have st := (st.asSl 0 Ty.bool.enc [false, true, false] rfl rfl).freeze 0 rfl
  try simp only [List.nil_append, List.cons_append, List.set_cons_zero, List.set_cons_succ, List.eraseIdx_cons_zero] at st
  refine call_of (equal_bools (k := [false, true, false]) (k2 := [false, true, false]) (s := r8) (s2 := (⟨some ⟨b30, 0, none⟩, 3, 3⟩ : Sl)) (st.fz 5 rfl).rsl (st.fz 21 rfl).rsl (by decide)) ?_
  rintro r _ ⟨er, rfl⟩
  have er : r = true := er
  subst er
  show (brB true (brB true (brB true _ _) _) _) _
  rw [brB_true, brB_true, brB_true]
  refine ldF (s := r13) (st.fblk 8 rfl) ?_
  refine st.nw fun b33 _ st => ?_
  have st := (st.asSl 0 i64.enc [3] rfl rfl).freeze 0 rfl
  try simp only [List.nil_append, List.cons_append, List.set_cons_zero, List.set_cons_succ, List.eraseIdx_cons_zero] at st
  refine st.nw fun b34 _ st => ?_
  have st := (st.asSl 0 Ty.sl.enc [(⟨some ⟨b33, 0, none⟩, 1, 1⟩ : Sl)] rfl rfl).freeze 0 rfl
  try simp only [List.nil_append, List.cons_append, List.set_cons_zero, List.set_cons_succ, List.eraseIdx_cons_zero] at st
  refine call_of (lawOf_c (n := 3) (cs := [[3]]) (s := (⟨some ⟨b34, 0, none⟩, 1, 1⟩ : Sl)) (rows1_at (s := (⟨some ⟨b34, 0, none⟩, 1, 1⟩ : Sl)) (st.fz 23 rfl).rsl (st.fz 22 rfl).rsl) (by decide) (by decide)) ?_
  rintro _ _ ⟨r35, rfl, nn, xx⟩
  have st := (st.new xx nn).freeze 0 rfl
  clear nn xx
  try simp only [List.nil_append, List.cons_append, List.set_cons_zero, List.set_cons_succ, List.eraseIdx_cons_zero] at st
  refine ckF (s := r13) (st.fblk 8 rfl) ?_
  refine call_of (Same_c (n := 3) (n2 := 3) (cs := [[3]]) (ds := [[3]]) (llo_at (st.fz 7 rfl)) (llo_at (st.fz 24 rfl)) (by decide) (by decide)) ?_
  rintro r _ ⟨er, xx⟩
  have er : r = true := er.trans (by rfl)
  subst er
  have st := st.ext xx
  clear xx
  rw [brB_true]
  refine ldF (s := r16) (st.fblk 10 rfl) ?_
  refine st.nw fun b38 _ st => ?_
  have st := (st.asSl 0 i64.enc [2] rfl rfl).freeze 0 rfl
  try simp only [List.nil_append, List.cons_append, List.set_cons_zero, List.set_cons_succ, List.eraseIdx_cons_zero] at st
  refine st.nw fun b39 _ st => ?_
  have st := (st.asSl 0 Ty.sl.enc [(⟨some ⟨b38, 0, none⟩, 1, 1⟩ : Sl)] rfl rfl).freeze 0 rfl
  try simp only [List.nil_append, List.cons_append, List.set_cons_zero, List.set_cons_succ, List.eraseIdx_cons_zero] at st
  refine call_of (lawOf_c (n := 3) (cs := [[2]]) (s := (⟨some ⟨b39, 0, none⟩, 1, 1⟩ : Sl)) (rows1_at (s := (⟨some ⟨b39, 0, none⟩, 1, 1⟩ : Sl)) (st.fz 26 rfl).rsl (st.fz 25 rfl).rsl) (by decide) (by decide)) ?_
  rintro _ _ ⟨r40, rfl, nn, xx⟩
  have st := (st.new xx nn).freeze 0 rfl
  clear nn xx
  try simp only [List.nil_append, List.cons_append, List.set_cons_zero, List.set_cons_succ, List.eraseIdx_cons_zero] at st
  refine ckF (s := r16) (st.fblk 10 rfl) ?_
  refine call_of (Same_c (n := 3) (n2 := 3) (cs := [[2]]) (ds := [[2]]) (llo_at (st.fz 9 rfl)) (llo_at (st.fz 27 rfl)) (by decide) (by decide)) ?_
  rintro r _ ⟨er, xx⟩
  have er : r = true := er.trans (by rfl)
  subst er
  have st := st.ext xx
  clear xx
  rw [brB_true]
  refine ldF (s := r23) (st.fblk 17 rfl) ?_
  refine st.nw fun b43 _ st => ?_
  have st := (st.asSl 0 i64.enc [1, 2] rfl rfl).freeze 0 rfl
  try simp only [List.nil_append, List.cons_append, List.set_cons_zero, List.set_cons_succ, List.eraseIdx_cons_zero] at st
  refine st.nw fun b44 _ st => ?_
  have st := (st.asSl 0 Ty.sl.enc [(⟨some ⟨b43, 0, none⟩, 2, 2⟩ : Sl)] rfl rfl).freeze 0 rfl
  try simp only [List.nil_append, List.cons_append, List.set_cons_zero, List.set_cons_succ, List.eraseIdx_cons_zero] at st
  refine call_of (lawOf_c (n := 3) (cs := [[1, 2]]) (s := (⟨some ⟨b44, 0, none⟩, 1, 1⟩ : Sl)) (rows1_at (s := (⟨some ⟨b44, 0, none⟩, 1, 1⟩ : Sl)) (st.fz 29 rfl).rsl (st.fz 28 rfl).rsl) (by decide) (by decide)) ?_
  rintro _ _ ⟨r45, rfl, nn, xx⟩
  have st := (st.new xx nn).freeze 0 rfl
  clear nn xx
  try simp only [List.nil_append, List.cons_append, List.set_cons_zero, List.set_cons_succ, List.eraseIdx_cons_zero] at st
  refine ckF (s := r23) (st.fblk 17 rfl) ?_
  refine call_of (Same_c (n := 3) (n2 := 3) (cs := [[1, 2]]) (ds := [[1, 2]]) (lgo_at (st.fz 16 rfl)) (llo_at (st.fz 30 rfl)) (by decide) (by decide)) ?_
  rintro r _ ⟨er, xx⟩
  have er : r = true := er.trans (by rfl)
  subst er
  have st := st.ext xx
  clear xx
  rw [brB_true]
  rw [show ((8 : Int) == 8) = true from rfl, brB_true]
  exact hK _ _ ⟨rfl, st.frame (by simp)⟩

end Go.Proofs.S
