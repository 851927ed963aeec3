/-
  The laws of the formulas: the examples.
-/
import Derived.Test.YtmlamkoilggonaaGreatFoL
set_option linter.unusedVariables false
set_option linter.unusedSimpArgs false
namespace Go.Proofs.S
open Go Go.Sx Go.Proofs Go.Cl

variable {h : Heap} {c d : List Int} {s s2 : Sl} {fr : Fr} {G As : List Asn} {m : List Bool} {sm : Sl} {k k2 : List Bool}

theorem bne_iffB (x y : Bool) : (!(x == y)) = true ↔ x ≠ y := by cases x <;> cases y <;> simp
theorem eq_of_iff {b : Bool} {p : Prop} [Decidable p] (h : b = true ↔ p) : b = decide p := by
  cases b with
  | true => exact (decide_eq_true (h.1 rfl)).symm
  | false => exact (decide_eq_false fun hp => by cases h.2 hp).symm
theorem equal_bools (hA : At h (lb k s)) (hB : At h (lb k2 s2)) (hl : k.length ≤ 1099511627776) : callT Tryz.prog fn_slices_Equal_bool_bool #[.slice s.a s.len s.cap, .slice s2.a s2.len s2.cap] .bool (fun r h' => r = decide (k = k2) ∧ h' = h) h :=
  callT_gen fun K hK => S_slices_Equal_bool_bool (a0 := s) (a1 := s2) K (w_equal (τ := .bool) bne_iffB hA hB hl fun b hb => hK _ _ ⟨eq_of_iff hb, rfl⟩)

theorem ckF {b : Nat} {t : TypeId} {n : Int} {K : HP} (hb : Blk h b t [.int .i64 n, .slice s.a s.len s.cap]) (hK : K h) : ckA ⟨b, 0, none⟩ [.int .i64 n, .slice s.a s.len s.cap] K h :=
  ⟨CellsAt_blk' _ hb 0 (by
    intro j hj
    match j, hj with
    | 0, _ => rfl
    | 1, _ => rfl
    | j + 2, hj => exact absurd (show j + 2 < 2 from hj) (by omega)), hK⟩
theorem llo_at {cs : List (List Int)} (hA : At h (llo cs s)) : At h (lli cs s) := rsgA_mono (fun c p S h q => osl_rsl q) (At.rsg hA)
theorem lgo_at {cs : List (List Int)} (hA : At h (lgo cs s)) : At h (lli cs s) := rsgA_mono (fun c p S h q => osl_rsl q) hA
theorem nil_li : At h (li [] ⟨none, 0, 0⟩) := (osl_nil (t := 0) (enc := i64.enc) (a := none) 0 h).at.rsl
theorem nil_lli : At h (lli [] ⟨none, 0, 0⟩) := llo_at (osg_nil (a := none) 0 h).at
theorem rows1_at {p : Sl} (hA : At h (rsl Ty.sl.enc [p] s)) (h1 : At h (li c p)) : At h (lli [c] s) :=
  rsg_at (ps := [p]) rfl hA fun i h2 h3 => by
    match i, h2 with
    | 0, _ => exact h1
theorem rows2_at {p q : Sl} (hA : At h (rsl Ty.sl.enc [p, q] s)) (h1 : At h (li c p)) (h2 : At h (li d q)) : At h (lli [c, d] s) :=
  rsg_at (ps := [p, q]) rfl hA fun i h3 h4 => by
    match i, h3 with
    | 0, _ => exact h1
    | 1, _ => exact h2
theorem rows3_at {p q r : Sl} {e : List Int} (hA : At h (rsl Ty.sl.enc [p, q, r] s)) (h1 : At h (li c p)) (h2 : At h (li d q)) (h3 : At h (li e r)) : At h (lli [c, d, e] s) :=
  rsg_at (ps := [p, q, r]) rfl hA fun i h4 h5 => by
    match i, h4 with
    | 0, _ => exact h1
    | 1, _ => exact h2
    | 2, _ => exact h3

theorem fawake_c : callT Tryz.prog fn_salvorlaw05_awake #[] .bool (fun r h' => r = true ∧ Ext [] h h') h := by
  refine callT_gen fun K hK => S_salvorlaw05_awake K ?_
  unfold F_salvorlaw05_awake
  have e1 : countF 3 [[1, 2], [-1, 3]] = (4, 0) := by rfl
  have e2 : firstF 3 [[1, 2], [-1, 3]] = ([false, true, false], true, 0) := by rfl
  have e3 : failsP 3 [[1, 2], [-1, 3]] [true, false, false] = (1, true, 0) := by rfl
  have e4 : assignF 3 [[1, 2], [-1, 3]] 1 = ((3, [[3]]), 0) := by rfl
  have e5 : assignF 3 [[1, 2], [-1, 3]] (-1) = ((3, [[2]]), 0) := by rfl
  have e6 : normF 3 [[2, 1, 2], [3, -3], [1, 2]] = ((3, [[1, 2]]), 0) := by
    have : compareP = fun a b => if rightC a && rightC b then (if cmpI (nrm a).length (nrm b).length ≠ 0 then cmpI (nrm a).length (nrm b).length else cmpL cmpLit (nrm a) (nrm b)) else 0 := rfl
    unfold normF normL
    rw [this, nrm_T]; rfl
  have e7 : countF 3 [] = (8, 0) := by rfl
  have e8 : countF 3 [[]] = (0, 0) := by rfl
  have st := Hs.start h [] (by simp)
  refine st.nw fun b0 _ st => ?_
  have st := (st.asSl 0 i64.enc [1, 2] rfl rfl).freeze 0 rfl
  try simp only [List.nil_append, List.cons_append, List.set_cons_zero, List.set_cons_succ, List.eraseIdx_cons_zero] at st
  refine st.nw fun b1 _ st => ?_
  have st := (st.asSl 0 i64.enc [-1, 3] rfl rfl).freeze 0 rfl
  try simp only [List.nil_append, List.cons_append, List.set_cons_zero, List.set_cons_succ, List.eraseIdx_cons_zero] at st
  refine st.nw fun b2 _ st => ?_
  have st := (st.asSl 0 Ty.sl.enc [(⟨some ⟨b0, 0, none⟩, 2, 2⟩ : Sl), (⟨some ⟨b1, 0, none⟩, 2, 2⟩ : Sl)] rfl rfl).freeze 0 rfl
  try simp only [List.nil_append, List.cons_append, List.set_cons_zero, List.set_cons_succ, List.eraseIdx_cons_zero] at st
  refine call_of (lawOf_c (n := 3) (cs := [[1, 2], [-1, 3]]) (s := (⟨some ⟨b2, 0, none⟩, 2, 2⟩ : Sl)) (rows2_at (s := (⟨some ⟨b2, 0, none⟩, 2, 2⟩ : Sl)) (st.fz 2 rfl).rsl (st.fz 0 rfl).rsl (st.fz 1 rfl).rsl) (by decide) (by decide)) ?_
  rintro _ _ ⟨r3, rfl, nn, xx⟩
  have st := (st.new xx nn).freeze 0 rfl
  clear nn xx
  try simp only [List.nil_append, List.cons_append, List.set_cons_zero, List.set_cons_succ, List.eraseIdx_cons_zero] at st
  refine st.nw fun b4 _ st => ?_
  try simp only [List.nil_append, List.cons_append, List.set_cons_zero, List.set_cons_succ, List.eraseIdx_cons_zero] at st
  simp only [addr_add, Nat.zero_add]
  refine st.st1 0 0 rfl (by simp) fun _ st => ?_
  refine st.st1 0 1 rfl (by simp) fun _ st => ?_
  have st := st.freeze 0 rfl
  try simp only [List.nil_append, List.cons_append, List.set_cons_zero, List.set_cons_succ, List.eraseIdx_cons_zero] at st
  refine ldF (s := r3) (st.fblk 4 rfl) ?_
  refine call_of (count_c (n := 3) (cs := [[1, 2], [-1, 3]]) (llo_at (st.fz 3 rfl))) ?_
  rintro _ _ ⟨rfl, xx⟩
  have st := st.ext xx
  clear xx
  rw [e1]
  refine ldF (s := r3) (st.fblk 4 rfl) ?_
  refine call_of (first_c (n := 3) (cs := [[1, 2], [-1, 3]]) (llo_at (st.fz 3 rfl))) ?_
  rintro _ _ ⟨r8, rfl, nn, xx⟩
  have st := (st.new xx nn).freeze 0 rfl
  clear nn xx
  try simp only [List.nil_append, List.cons_append, List.set_cons_zero, List.set_cons_succ, List.eraseIdx_cons_zero] at st
  rw [e2] at st ⊢
  refine ldF (s := r3) (st.fblk 4 rfl) ?_
  refine st.nw fun b10 _ st => ?_
  have st := (st.asSl 0 Ty.bool.enc [true, false, false] rfl rfl).freeze 0 rfl
  try simp only [List.nil_append, List.cons_append, List.set_cons_zero, List.set_cons_succ, List.eraseIdx_cons_zero] at st
  refine call_of (Fails_c (n := 3) (cs := [[1, 2], [-1, 3]]) (sm := (⟨some ⟨b10, 0, none⟩, 3, 3⟩ : Sl)) (m := [true, false, false]) (llo_at (st.fz 3 rfl)) (st.fz 6 rfl).rsl) ?_
  rintro _ _ ⟨rfl, xx⟩
  have st := st.ext xx
  clear xx
  rw [e3]
  refine ldF (s := r3) (st.fblk 4 rfl) ?_
  refine call_of (assign_c (n := 3) (cs := [[1, 2], [-1, 3]]) (llo_at (st.fz 3 rfl)) 1) ?_
  rintro _ _ ⟨r13, rfl, nn, xx⟩
  have st := (st.new xx nn).freeze 0 rfl
  clear nn xx
  try simp only [List.nil_append, List.cons_append, List.set_cons_zero, List.set_cons_succ, List.eraseIdx_cons_zero] at st
  rw [e4] at st ⊢
  refine st.nw fun b14 _ st => ?_
  try simp only [List.nil_append, List.cons_append, List.set_cons_zero, List.set_cons_succ, List.eraseIdx_cons_zero] at st
  simp only [addr_add, Nat.zero_add]
  refine st.st1 0 0 rfl (by simp) fun _ st => ?_
  refine st.st1 0 1 rfl (by simp) fun _ st => ?_
  have st := st.freeze 0 rfl
  try simp only [List.nil_append, List.cons_append, List.set_cons_zero, List.set_cons_succ, List.eraseIdx_cons_zero] at st
  refine ldF (s := r3) (st.fblk 4 rfl) ?_
  refine call_of (assign_c (n := 3) (cs := [[1, 2], [-1, 3]]) (llo_at (st.fz 3 rfl)) (-1)) ?_
  rintro _ _ ⟨r16, rfl, nn, xx⟩
  have st := (st.new xx nn).freeze 0 rfl
  clear nn xx
  try simp only [List.nil_append, List.cons_append, List.set_cons_zero, List.set_cons_succ, List.eraseIdx_cons_zero] at st
  rw [e5] at st ⊢
  refine st.nw fun b17 _ st => ?_
  try simp only [List.nil_append, List.cons_append, List.set_cons_zero, List.set_cons_succ, List.eraseIdx_cons_zero] at st
  simp only [addr_add, Nat.zero_add]
  refine st.st1 0 0 rfl (by simp) fun _ st => ?_
  refine st.st1 0 1 rfl (by simp) fun _ st => ?_
  have st := st.freeze 0 rfl
  try simp only [List.nil_append, List.cons_append, List.set_cons_zero, List.set_cons_succ, List.eraseIdx_cons_zero] at st
  refine st.nw fun b18 _ st => ?_
  have st := (st.asSl 0 i64.enc [2, 1, 2] rfl rfl).freeze 0 rfl
  try simp only [List.nil_append, List.cons_append, List.set_cons_zero, List.set_cons_succ, List.eraseIdx_cons_zero] at st
  refine st.nw fun b19 _ st => ?_
  have st := (st.asSl 0 i64.enc [3, -3] rfl rfl).freeze 0 rfl
  try simp only [List.nil_append, List.cons_append, List.set_cons_zero, List.set_cons_succ, List.eraseIdx_cons_zero] at st
  refine st.nw fun b20 _ st => ?_
  have st := (st.asSl 0 i64.enc [1, 2] rfl rfl).freeze 0 rfl
  try simp only [List.nil_append, List.cons_append, List.set_cons_zero, List.set_cons_succ, List.eraseIdx_cons_zero] at st
  refine st.nw fun b21 _ st => ?_
  have st := (st.asSl 0 Ty.sl.enc [(⟨some ⟨b18, 0, none⟩, 3, 3⟩ : Sl), (⟨some ⟨b19, 0, none⟩, 2, 2⟩ : Sl), (⟨some ⟨b20, 0, none⟩, 2, 2⟩ : Sl)] rfl rfl).freeze 0 rfl
  try simp only [List.nil_append, List.cons_append, List.set_cons_zero, List.set_cons_succ, List.eraseIdx_cons_zero] at st
  refine call_of (lawOf_c (n := 3) (cs := [[2, 1, 2], [3, -3], [1, 2]]) (s := (⟨some ⟨b21, 0, none⟩, 3, 3⟩ : Sl)) (rows3_at (s := (⟨some ⟨b21, 0, none⟩, 3, 3⟩ : Sl)) (st.fz 14 rfl).rsl (st.fz 11 rfl).rsl (st.fz 12 rfl).rsl (st.fz 13 rfl).rsl) (by decide) (by decide)) ?_
  rintro _ _ ⟨r22, rfl, nn, xx⟩
  have st := (st.new xx nn).freeze 0 rfl
  clear nn xx
  try simp only [List.nil_append, List.cons_append, List.set_cons_zero, List.set_cons_succ, List.eraseIdx_cons_zero] at st
  refine call_of (fnorm_c (n := 3) (cs := [[2, 1, 2], [3, -3], [1, 2]]) (llo_at (st.fz 15 rfl))) ?_
  rintro _ _ ⟨r23, rfl, nn, xx⟩
  have st := (st.new xx nn).freeze 0 rfl
  clear nn xx
  try simp only [List.nil_append, List.cons_append, List.set_cons_zero, List.set_cons_succ, List.eraseIdx_cons_zero] at st
  rw [e6] at st ⊢
  refine st.nw fun b24 _ st => ?_
  try simp only [List.nil_append, List.cons_append, List.set_cons_zero, List.set_cons_succ, List.eraseIdx_cons_zero] at st
  simp only [addr_add, Nat.zero_add]
  refine st.st1 0 0 rfl (by simp) fun _ st => ?_
  refine st.st1 0 1 rfl (by simp) fun _ st => ?_
  have st := st.freeze 0 rfl
  try simp only [List.nil_append, List.cons_append, List.set_cons_zero, List.set_cons_succ, List.eraseIdx_cons_zero] at st
  refine call_of (lawOf_c (n := 3) (cs := []) (s := ⟨none, 0, 0⟩) nil_lli (by decide) (by decide)) ?_
  rintro _ _ ⟨r25, rfl, nn, xx⟩
  have st := (st.new xx nn).freeze 0 rfl
  clear nn xx
  try simp only [List.nil_append, List.cons_append, List.set_cons_zero, List.set_cons_succ, List.eraseIdx_cons_zero] at st
  refine call_of (count_c (n := 3) (cs := []) (llo_at (st.fz 18 rfl))) ?_
  rintro _ _ ⟨rfl, xx⟩
  have st := st.ext xx
  clear xx
  rw [e7]
  refine st.nw fun b27 _ st => ?_
  have st := (st.asSl 0 Ty.sl.enc [(⟨none, 0, 0⟩ : Sl)] rfl rfl).freeze 0 rfl
  try simp only [List.nil_append, List.cons_append, List.set_cons_zero, List.set_cons_succ, List.eraseIdx_cons_zero] at st
  refine call_of (lawOf_c (n := 3) (cs := [[]]) (s := (⟨some ⟨b27, 0, none⟩, 1, 1⟩ : Sl)) (rows1_at (s := (⟨some ⟨b27, 0, none⟩, 1, 1⟩ : Sl)) (st.fz 19 rfl).rsl nil_li) (by decide) (by decide)) ?_
  rintro _ _ ⟨r28, rfl, nn, xx⟩
  have st := (st.new xx nn).freeze 0 rfl
  clear nn xx
  try simp only [List.nil_append, List.cons_append, List.set_cons_zero, List.set_cons_succ, List.eraseIdx_cons_zero] at st
  refine call_of (count_c (n := 3) (cs := [[]]) (llo_at (st.fz 20 rfl))) ?_
  rintro _ _ ⟨rfl, xx⟩
  have st := st.ext xx
  clear xx
  rw [e8]
  show (brB true (brB true (brB true _ _) _) _) _
  rw [brB_true, brB_true, brB_true]
  refine st.nw fun b30 _ st => ?_
  have st := (st.asSl 0 Ty.bool.enc [false, true, false] rfl rfl).freeze 0 rfl
  try simp only [List.nil_append, List.cons_append, List.set_cons_zero, List.set_cons_succ, List.eraseIdx_cons_zero] at st
  refine call_of (equal_bools (k := [false, true, false]) (k2 := [false, true, false]) (s := r8) (s2 := (⟨some ⟨b30, 0, none⟩, 3, 3⟩ : Sl)) (st.fz 5 rfl).rsl (st.fz 21 rfl).rsl (by decide)) ?_
  rintro r _ ⟨er, rfl⟩
  have er : r = true := er
  subst er
  show (brB true (brB true (brB true _ _) _) _) _
  rw [brB_true, brB_true, brB_true]
  refine ldF (s := r13) (st.fblk 8 rfl) ?_
  refine st.nw fun b33 _ st => ?_
  have st := (st.asSl 0 i64.enc [3] rfl rfl).freeze 0 rfl
  try simp only [List.nil_append, List.cons_append, List.set_cons_zero, List.set_cons_succ, List.eraseIdx_cons_zero] at st
  refine st.nw fun b34 _ st => ?_
  have st := (st.asSl 0 Ty.sl.enc [(⟨some ⟨b33, 0, none⟩, 1, 1⟩ : Sl)] rfl rfl).freeze 0 rfl
  try simp only [List.nil_append, List.cons_append, List.set_cons_zero, List.set_cons_succ, List.eraseIdx_cons_zero] at st
  refine call_of (lawOf_c (n := 3) (cs := [[3]]) (s := (⟨some ⟨b34, 0, none⟩, 1, 1⟩ : Sl)) (rows1_at (s := (⟨some ⟨b34, 0, none⟩, 1, 1⟩ : Sl)) (st.fz 23 rfl).rsl (st.fz 22 rfl).rsl) (by decide) (by decide)) ?_
  rintro _ _ ⟨r35, rfl, nn, xx⟩
  have st := (st.new xx nn).freeze 0 rfl
  clear nn xx
  try simp only [List.nil_append, List.cons_append, List.set_cons_zero, List.set_cons_succ, List.eraseIdx_cons_zero] at st
  refine ckF (s := r13) (st.fblk 8 rfl) ?_
  refine call_of (Same_c (n := 3) (n2 := 3) (cs := [[3]]) (ds := [[3]]) (llo_at (st.fz 7 rfl)) (llo_at (st.fz 24 rfl)) (by decide) (by decide)) ?_
  rintro r _ ⟨er, xx⟩
  have er : r = true := er.trans (by rfl)
  subst er
  have st := st.ext xx
  clear xx
  rw [brB_true]
  refine ldF (s := r16) (st.fblk 10 rfl) ?_
  refine st.nw fun b38 _ st => ?_
  have st := (st.asSl 0 i64.enc [2] rfl rfl).freeze 0 rfl
  try simp only [List.nil_append, List.cons_append, List.set_cons_zero, List.set_cons_succ, List.eraseIdx_cons_zero] at st
  refine st.nw fun b39 _ st => ?_
  have st := (st.asSl 0 Ty.sl.enc [(⟨some ⟨b38, 0, none⟩, 1, 1⟩ : Sl)] rfl rfl).freeze 0 rfl
  try simp only [List.nil_append, List.cons_append, List.set_cons_zero, List.set_cons_succ, List.eraseIdx_cons_zero] at st
  refine call_of (lawOf_c (n := 3) (cs := [[2]]) (s := (⟨some ⟨b39, 0, none⟩, 1, 1⟩ : Sl)) (rows1_at (s := (⟨some ⟨b39, 0, none⟩, 1, 1⟩ : Sl)) (st.fz 26 rfl).rsl (st.fz 25 rfl).rsl) (by decide) (by decide)) ?_
  rintro _ _ ⟨r40, rfl, nn, xx⟩
  have st := (st.new xx nn).freeze 0 rfl
  clear nn xx
  try simp only [List.nil_append, List.cons_append, List.set_cons_zero, List.set_cons_succ, List.eraseIdx_cons_zero] at st
  refine ckF (s := r16) (st.fblk 10 rfl) ?_
  refine call_of (Same_c (n := 3) (n2 := 3) (cs := [[2]]) (ds := [[2]]) (llo_at (st.fz 9 rfl)) (llo_at (st.fz 27 rfl)) (by decide) (by decide)) ?_
  rintro r _ ⟨er, xx⟩
  have er : r = true := er.trans (by rfl)
  subst er
  have st := st.ext xx
  clear xx
  rw [brB_true]
  refine ldF (s := r23) (st.fblk 17 rfl) ?_
  refine st.nw fun b43 _ st => ?_
  have st := (st.asSl 0 i64.enc [1, 2] rfl rfl).freeze 0 rfl
  try simp only [List.nil_append, List.cons_append, List.set_cons_zero, List.set_cons_succ, List.eraseIdx_cons_zero] at st
  refine st.nw fun b44 _ st => ?_
  have st := (st.asSl 0 Ty.sl.enc [(⟨some ⟨b43, 0, none⟩, 2, 2⟩ : Sl)] rfl rfl).freeze 0 rfl
  try simp only [List.nil_append, List.cons_append, List.set_cons_zero, List.set_cons_succ, List.eraseIdx_cons_zero] at st
  refine call_of (lawOf_c (n := 3) (cs := [[1, 2]]) (s := (⟨some ⟨b44, 0, none⟩, 1, 1⟩ : Sl)) (rows1_at (s := (⟨some ⟨b44, 0, none⟩, 1, 1⟩ : Sl)) (st.fz 29 rfl).rsl (st.fz 28 rfl).rsl) (by decide) (by decide)) ?_
  rintro _ _ ⟨r45, rfl, nn, xx⟩
  have st := (st.new xx nn).freeze 0 rfl
  clear nn xx
  try simp only [List.nil_append, List.cons_append, List.set_cons_zero, List.set_cons_succ, List.eraseIdx_cons_zero] at st
  refine ckF (s := r23) (st.fblk 17 rfl) ?_
  refine call_of (Same_c (n := 3) (n2 := 3) (cs := [[1, 2]]) (ds := [[1, 2]]) (lgo_at (st.fz 16 rfl)) (llo_at (st.fz 30 rfl)) (by decide) (by decide)) ?_
  rintro r _ ⟨er, xx⟩
  have er : r = true := er.trans (by rfl)
  subst er
  have st := st.ext xx
  clear xx
  rw [brB_true]
  rw [show ((8 : Int) == 8) = true from rfl, brB_true]
  exact hK _ _ ⟨rfl, st.frame (by simp)⟩

end Go.Proofs.S
