/-
  FormulaBack, walked.
-/
import Derived.Test.YtmlamkoilggonaaFoM
set_option linter.unusedVariables false
set_option linter.unusedSimpArgs false
namespace Go.Proofs.S
open Go Go.Sx Go.Proofs Go.Cl

variable {h : Heap} {c d : List Int} {s s2 : Sl} {fr : Fr} {G As : List Asn} {m : List Bool} {sm : Sl} {k k2 : List Bool}

def litF (i : Nat) (b : Bool) : Int := if b then (i : Int) + 1 else -((i : Int) + 1)
theorem litsGo_cons (i : Nat) (b : Bool) (m : List Bool) : litsGo i (b :: m) = litF i b :: litsGo (i + 1) m := rfl
theorem litF_rt {i : Nat} (b : Bool) (hi : i < 1048576) : rt (litF i b) = true ∧ varL (litF i b) = i + 1 ∧ decide (litF i b < 0) = !b := by
  have h1 : rt (litF i b) = true := by rw [rt_iff]; unfold litF; cases b <;> simp <;> omega
  refine ⟨h1, ?_, ?_⟩
  · unfold varL
    rw [if_pos h1]
    unfold litF
    cases b
    · simp only [Bool.false_eq_true, if_false]; rw [if_pos (by omega)]; omega
    · simp only [if_true]; rw [if_neg (by omega)]
  · unfold litF
    cases b
    · simp only [Bool.false_eq_true, if_false, Bool.not_false]; exact decide_eq_true (by omega)
    · simp only [if_true, Bool.not_true]; exact decide_eq_false (by omega)
theorem litF_bey {i n : Nat} (b : Bool) (hi : i < n) (hn : n ≤ 1048576) : beyP n (litF i b) = false := by
  obtain ⟨h1, h2, _⟩ := litF_rt b (show i < 1048576 by omega)
  unfold beyP
  rw [h1, h2, decide_eq_false (by omega)]; rfl

theorem take_set_succ {α : Type} {l : List α} {i : Nat} (hi : i < l.length) (x : α) : (l.set i x).take (i + 1) = l.take i ++ [x] := by
  rw [List.take_succ_eq_append_getElem (by simpa using hi), List.getElem_set_self, List.take_set_of_le (Nat.le_refl _)]
theorem drop_set_lt {α : Type} {l : List α} {i j : Nat} (hij : i < j) (x : α) : (l.set i x).drop j = l.drop j := by
  rw [List.drop_set_of_lt hij]

theorem model_lits {n : Nat} (hn : n ≤ 1048576) (rest : List Int) : ∀ (m : List Bool) (i : Nat) (out set : List Bool), i + m.length ≤ n → out.length = n → set.length = n → (∀ j, i ≤ j → set.getD j false = false) →
    modelGo n out set (litsGo i m ++ rest) = modelGo n (out.take i ++ m ++ out.drop (i + m.length)) (set.take i ++ List.replicate m.length true ++ set.drop (i + m.length)) rest
  | [], i, out, set, hm, ho, hs, hu => by simp [litsGo]
  | b :: m, i, out, set, hm, ho, hs, hu => by
    rw [List.length_cons] at hm
    have hi : i < n := by omega
    obtain ⟨h1, h2, h3⟩ := litF_rt b (show i < 1048576 by omega)
    rw [litsGo_cons, List.cons_append, modelGo_cons, litF_bey b hi hn, if_neg (by decide), h2]
    have e : ((i : Int) + 1 - 1).toNat = i := by omega
    rw [e, hu i (Nat.le_refl _), Bool.false_and, if_neg (by decide), h3, Bool.not_not]
    rw [model_lits hn rest m (i + 1) (out.set i b) (set.set i true) (by omega) (by simpa using ho) (by simpa using hs) fun j hj => by
      rw [List.getD_eq_getElem?_getD, List.getElem?_set_ne (by omega), ← List.getD_eq_getElem?_getD]; exact hu j (by omega)]
    rw [take_set_succ (by omega), take_set_succ (by omega), drop_set_lt (by omega), drop_set_lt (by omega), List.length_cons, List.replicate_succ, show i + 1 + m.length = i + (m.length + 1) by omega]
    simp

theorem getD_rep (n j : Nat) : (List.replicate n false).getD j false = false := by
  rw [List.getD_eq_getElem?_getD, List.getElem?_replicate]; split <;> rfl
theorem varsP_nat {n : Nat} (hn : n ≤ 1048576) : varsP n = true := by
  unfold varsP
  rw [decide_eq_true (by omega), decide_eq_true (by omega)]; rfl
theorem model_back (m : List Bool) (k : Nat) (hn : m.length + k ≤ 1048576) : modelF ((m.length + k : Nat) : Int) (litsGo 0 m) = (m ++ List.replicate k false, 0) := by
  unfold modelF
  rw [varsP_nat hn, if_pos rfl, Int.toNat_natCast]
  have := model_lits hn [] m 0 (List.replicate (m.length + k) false) (List.replicate (m.length + k) false) (by omega) (by simp) (by simp) fun j _ => getD_rep _ _
  rw [List.append_nil] at this
  rw [this, modelGo_nil]
  simp
theorem model_clash (b : Bool) (m : List Bool) (hn : m.length + 1 ≤ 1048576) : (modelF ((m.length + 1 : Nat) : Int) (litsGo 0 (b :: m) ++ [-litF 0 b])).2 = 52 := by
  unfold modelF
  rw [varsP_nat hn, if_pos rfl, Int.toNat_natCast]
  rw [model_lits hn [-litF 0 b] (b :: m) 0 (List.replicate (m.length + 1) false) (List.replicate (m.length + 1) false) (by simp) (by simp) (by simp) fun j _ => getD_rep _ _]
  have e : -litF 0 b = litF 0 (!b) := by unfold litF; cases b <;> simp
  obtain ⟨h1, h2, h3⟩ := litF_rt (i := 0) (!b) (by decide)
  rw [e, modelGo_cons, litF_bey (!b) (show 0 < m.length + 1 by omega) hn, if_neg (by decide), h2, h3]
  simp [List.replicate_succ]

theorem right_one {x : Int} (h : rt x = true) : rightC [x] = true := by
  unfold rightC; simp [h]
theorem holds_lit {m : List Bool} {i : Nat} (hi : i < m.length) (hn : m.length ≤ 1048576) : holdsF [litF i m[i]] m = true ∧ holdsF [-litF i m[i]] m = false := by
  have e : -litF i m[i] = litF i (!m[i]) := by unfold litF; cases m[i] <;> simp
  obtain ⟨h1, h2, h3⟩ := litF_rt m[i] (show i < 1048576 by omega)
  obtain ⟨k1, k2, k3⟩ := litF_rt (!m[i]) (show i < 1048576 by omega)
  have ei : ((i : Int) + 1 - 1).toNat = i := by omega
  rw [e]
  unfold holdsF
  rw [right_one h1, right_one k1]
  constructor
  · simp only [List.any_cons, List.any_nil, litF_bey m[i] hi hn, trueIn, h2, h3, ei, List.getElem?_eq_getElem hi, Option.getD_some]
    cases m[i] <;> rfl
  · simp only [List.any_cons, List.any_nil, litF_bey (!m[i]) hi hn, trueIn, k2, k3, ei, List.getElem?_eq_getElem hi, Option.getD_some]
    cases m[i] <;> rfl
theorem litsGo_get : ∀ {m : List Bool} {i j : Nat} (hj : j < m.length), (litsGo i m)[j]'(by rw [litsGo_len]; exact hj) = litF (i + j) m[j]
  | b :: m, i, 0, hj => rfl
  | b :: m, i, j + 1, hj => by
    have := litsGo_get (m := m) (i := i + 1) (j := j) (by simpa using hj)
    simp only [litsGo_cons, List.getElem_cons_succ]
    rw [this, show i + 1 + j = i + (j + 1) by omega]

theorem contains_bools (hA : At h (lb k s)) (hl : k.length ≤ 1099511627776) (v : Bool) : callT Try.prog fn_slices_Contains_bool_bool #[.slice s.a s.len s.cap, .bool v] .bool (fun r h' => r = k.any (fun x => v == x) ∧ h' = h) h := by
  refine callT_gen fun K hK => S_slices_Contains_bool_bool (a0 := s) (a1 := v) K ?_
  unfold F_slices_Contains_bool_bool
  refine call_of (R := fun r h' => r = fidx (fun x => v == x) k ∧ h' = h) (callT_gen fun K hK => S_slices_Index_bool_bool (a0 := s) (a1 := v) K (w_index (τ := .bool) hA hl (hK _ _ ⟨rfl, rfl⟩))) ?_
  rintro r h2 ⟨er, rfl⟩
  have er : r = fidx (fun x => v == x) k := er
  subst er
  exact hK _ _ ⟨fidx_ge _ _, rfl⟩

theorem formulaBack_F {more : Int} (hA : At h (lb m s)) (hm0 : 0 ≤ more ∧ more ≤ 255) (K : Bool → HP) (hK : ∀ x h', (x = true ∧ Ext [] h h') → K x h') : F_salvorlaw05_FormulaBack s more K h := by
  unfold F_salvorlaw05_FormulaBack
  have l0 := rsl_len hA
  have c0 := rsl_cap hA
  obtain ⟨more, rfl⟩ := Int.eq_ofNat_of_zero_le hm0.1
  by_cases q1 : (s.len : Int) > 300
  · rw [decide_eq_true q1, brB_true]
    refine call_of fawake_c ?_
    rintro _ h1 ⟨rfl, x1⟩
    exact hK _ _ ⟨rfl, x1⟩
  rw [decide_eq_false q1, brB_false]
  have hml : m.length ≤ 1099511627776 := by omega
  refine call_of (Lits_c hA (by omega)) ?_
  rintro r1 h1 ⟨n1, x1⟩
  have st := (Hs.start h [lb m s] (by simp [hA])).new x1 n1
  simp only [List.nil_append] at st
  have ll := litsGo_len 0 m
  have lr1 := osl_len (st.own 0 rfl)
  refine call_of (fmodel_c (n := (s.len : Int)) (st.own 0 rfl).rsl (by omega)) ?_
  rintro _ h2 ⟨r2, rfl, n2, x2⟩
  have st := st.new x2 n2
  have ew : IntKind.wrap .i64 ((s.len : Int) + (IntKind.wrap .i64 (more : Int))) = ((m.length + more : Nat) : Int) := by
    rw [wrap_i64 (x := (more : Int)) (by omega) (by omega), wrap_i64 (by omega) (by omega)]; omega
  rw [ew]
  refine call_of (fmodel_c (n := ((m.length + more : Nat) : Int)) (st.own 0 rfl).rsl (by omega)) ?_
  rintro _ h3 ⟨r3, rfl, n3, x3⟩
  have st := st.new x3 n3
  simp only [List.nil_append, List.cons_append] at st
  have e2 : modelF (s.len : Int) (litsGo 0 m) = (m, 0) := by
    have := model_back m 0 (by omega)
    rw [List.replicate_zero, List.append_nil, Nat.add_zero] at this
    rw [l0]; exact this
  have e3 := model_back m more (by omega)
  rw [e2, e3] at st
  rw [e2, e3]
  show (brB false _ _) h3
  rw [brB_false]
  refine call_of (equal_bools (st.own 1 rfl).rsl (st.fz 0 rfl) hml) ?_
  rintro r hq ⟨er, rfl⟩
  have er : r = true := er.trans (by simp)
  subst er
  have l3 := osl_len (st.own 2 rfl)
  rw [List.length_append, List.length_replicate] at l3
  have c3 := rsl_cap (st.own 2 rfl).rsl
  rw [Bool.not_true, brB_false]
  simp only
  rw [show ((r3.len : Int) != ((m.length + more : Nat) : Int)) = false by rw [l3]; simp, brB_false]
  refine ⟨Int.natCast_nonneg _, Int.ofNat_le.2 (show s.len ≤ r3.cap by omega), ?_⟩
  rw [Int.toNat_natCast]
  have hS5 := rsl_sub (st.own 2 rfl).rsl (l := 0) (m := s.len) (by omega) (by rw [List.length_append, List.length_replicate]; omega)
  have et : ((m ++ List.replicate more false).take s.len).drop 0 = m := by
    rw [List.drop_zero, l0, List.take_left]
  rw [et] at hS5
  refine call_of (equal_bools hS5 (st.fz 0 rfl) hml) ?_
  rintro r hq ⟨er, rfl⟩
  have er : r = true := er.trans (by simp)
  subst er
  rw [Bool.not_true, brB_false]
  refine ⟨Int.natCast_nonneg _, Int.ofNat_le.2 (show s.len ≤ r3.len by omega), ?_⟩
  rw [Int.toNat_natCast]
  have hS7 := rsl_sub (st.own 2 rfl).rsl (l := s.len) (m := r3.len) (by omega) (by rw [List.length_append, List.length_replicate]; omega)
  have et7 : ((m ++ List.replicate more false).take r3.len).drop s.len = List.replicate more false := by
    rw [List.take_of_length_le (by rw [List.length_append, List.length_replicate]; omega), l0, List.drop_left]
  rw [et7] at hS7
  refine call_of (contains_bools hS7 (by simp; omega) true) ?_
  rintro r hq ⟨er, rfl⟩
  have er : r = false := er.trans (by
    rw [List.any_eq_false]
    intro x hx
    rw [List.eq_of_mem_replicate hx]; decide)
  subst er
  rw [brB_false, show ((r1.len : Int) != (s.len : Int)) = false by rw [lr1, ll, l0]; simp, brB_false]
  have st := (st.drop 2 rfl).drop 1 rfl
  simp only [List.eraseIdx_cons_zero, List.eraseIdx_cons_succ] at st
  refine lfp_invh (I := fun μ σ h' => ∃ i : Nat, σ = ((i : Int), false, ()) ∧ i ≤ m.length ∧ Hs [([], h)] [lb m s] [lo (litsGo 0 m) r1] h' ∧ μ = m.length - i) ⟨_, 0, rfl, by omega, st, rfl⟩ ?_
  clear st
  rintro μ σ h4 X ⟨i, rfl, hi, st, em⟩ hX
  simp only
  by_cases hlt : i < m.length
  · rw [decide_eq_true (show (i : Int) < (r1.len : Int) by omega), brB_true, inc_i (show i < 4611686018427387904 by omega)]
    refine rdE (τ := i64) (st.own 0 rfl).rsl (show i < (litsGo 0 m).length by omega) ?_
    have eg := litsGo_get (m := m) (i := 0) hlt
    rw [Nat.zero_add] at eg
    rw [eg]
    obtain ⟨h1, h2, h3⟩ := litF_rt m[i] (show i < 1048576 by omega)
    have hh := holds_lit hlt (by omega)
    refine call_of (lits_Var_c _) ?_
    rintro r hq ⟨er, rfl⟩
    have er : r = (i : Int) + 1 := er.trans h2
    subst er
    rw [show ((i : Int) + 1 != (((i + 1 : Nat)) : Int)) = false by simp, brB_false]
    obtain ⟨a, ea, hc⟩ := rsl_cells (st.fz 0 rfl) (List.getElem?_eq_getElem hlt)
    refine ⟨a, ea, by omega, by omega, m[i], by simpa using hc, ?_⟩
    refine call_of (neg_c _) ?_
    rintro r hq ⟨er, rfl⟩
    have er : r = !m[i] := er.trans (by rw [h1, h3]; rfl)
    subst er
    refine ⟨by rw [Int.toNat_natCast, Nat.mul_one]; exact hc, ?_⟩
    rw [show ((!m[i]) == m[i]) = false by cases m[i] <;> rfl, brB_false]
    rw [wneg h1]
    generalize litF i m[i] = x at *
    refine st.nw fun b17 h5 st => ?_
    have st := st.asSl 1 i64.enc [x] rfl rfl
    simp only [List.nil_append, List.cons_append, List.set_cons_zero, List.set_cons_succ] at st
    refine call_of (fholds_c (s := ⟨some ⟨b17, 0, none⟩, 1, 1⟩) (st.own 1 rfl).rsl (st.fz 0 rfl)) ?_
    rintro r h6 ⟨er, x6⟩
    have er : r = true := er.trans hh.1
    subst er
    have st := (st.ext x6).drop 1 rfl
    simp only [List.eraseIdx_cons_zero, List.eraseIdx_cons_succ] at st
    rw [Bool.not_true, brB_false]
    refine st.nw fun b19 h7 st => ?_
    have st := st.asSl 1 i64.enc [-x] rfl rfl
    simp only [List.nil_append, List.cons_append, List.set_cons_zero, List.set_cons_succ] at st
    refine call_of (fholds_c (s := ⟨some ⟨b19, 0, none⟩, 1, 1⟩) (st.own 1 rfl).rsl (st.fz 0 rfl)) ?_
    rintro r h8 ⟨er, x8⟩
    have er : r = false := er.trans hh.2
    subst er
    have st := (st.ext x8).drop 1 rfl
    simp only [List.eraseIdx_cons_zero, List.eraseIdx_cons_succ] at st
    rw [brB_false]
    exact hX _ _ _ ⟨i + 1, rfl, by omega, st, rfl⟩ (by omega)
  rw [decide_eq_false (show ¬ (i : Int) < (r1.len : Int) by omega), brB_false]
  clear hX X em hlt hi
  cases m with
  | nil =>
    rw [show ((r1.len : Int) == 0) = true by rw [lr1]; rfl, brB_true]
    refine call_of fawake_c ?_
    rintro _ h5 ⟨rfl, x5⟩
    exact hK _ _ ⟨rfl, (st.ext x5).frame (by simp)⟩
  | cons b m =>
    rw [List.length_cons] at l0 ll
    rw [show ((r1.len : Int) == 0) = false by rw [beq_eq_false_iff_ne]; omega, brB_false]
    refine rdE (τ := i64) (st.own 0 rfl).rsl (show 0 < (litsGo 0 (b :: m)).length by omega) ?_
    have eg : (litsGo 0 (b :: m))[0]'(by omega) = litF 0 b := rfl
    rw [eg, wneg (litF_rt (i := 0) b (by decide)).1]
    refine st.nw fun b24 h5 st => ?_
    simp only [List.nil_append, List.cons_append] at st
    refine Hs.apd (enc := i64.enc) (v := -litF 0 b) st 0 1 rfl rfl (by decide) rfl (by omega) (by decide) rfl fun s25 h6 st => ?_
    simp only [List.set_cons_zero] at st
    refine call_of (fmodel_c (n := (s.len : Int)) (st.own 0 rfl).rsl (by rw [List.length_append]; simp; omega)) ?_
    rintro _ h7 ⟨r26, rfl, n7, x7⟩
    have e26 : (modelF (s.len : Int) (litsGo 0 (b :: m) ++ [-litF 0 b])).2 = 52 := by rw [l0]; exact model_clash b m (by omega)
    rw [e26]
    show (brB true _ _) h7
    rw [brB_true]
    refine call_of fawake_c ?_
    rintro _ h8 ⟨rfl, x8⟩
    exact hK _ _ ⟨rfl, ((st.ext x7).ext x8).frame (by simp)⟩

end Go.Proofs.S
