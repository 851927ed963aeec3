/-
  FormulaParts in plain form: half of the models of what a literal leaves have this literal. No program here.
-/
import Derived.Test.YtmlamkoilggonaaGreatClF
import Derived.Test.YtmlamkoilggonaaGreatClO
import Derived.Test.YtmlamkoilggonaaGreatCrP
import Derived.Test.YtmlamkoilggonaaGreatSxWi
set_option linter.unusedVariables false
set_option linter.unusedSimpArgs false
namespace Go.Fo
open Go

theorem nodup_le {α : Type} [DecidableEq α] : ∀ {A B : List α}, A.Nodup → (∀ x ∈ A, x ∈ B) → A.length ≤ B.length
  | [], B, _, _ => by simp
  | x :: A, B, nd, h => by
    obtain ⟨n1, n2⟩ := List.nodup_cons.1 nd
    have hx := h x (by simp)
    have := nodup_le (A := A) (B := B.erase x) n2 fun y hy => by
      have hne : y ≠ x := fun e => n1 (e ▸ hy)
      exact (List.mem_erase_of_ne hne).2 (h y (by simp [hy]))
    rw [List.length_erase_of_mem hx] at this
    have := List.length_pos_of_mem hx
    simp; omega
/-- An involution of a list without a twin, that turns a test about: half of it passes. -/
theorem half {α : Type} [DecidableEq α] {L : List α} (nd : L.Nodup) {f : α → α} (hf : ∀ x ∈ L, f x ∈ L ∧ f (f x) = x) {t : α → Bool} (ht : ∀ x ∈ L, t (f x) = !t x) : L.length = 2 * (L.filter t).length := by
  have inj : ∀ p : α → Bool, ((L.filter p).map f).Nodup := fun p => by
    rw [List.Nodup, List.pairwise_map]
    have h1 : (L.filter p).Pairwise (· ≠ ·) := nd.filter _
    refine h1.imp_of_mem fun {a b} ha hb hne e => hne ?_
    have h1 := (hf a (List.mem_filter.1 ha).1).2
    have h2 := (hf b (List.mem_filter.1 hb).1).2
    rw [← h1, ← h2, e]
  have a : (L.filter t).length ≤ (L.filter fun x => !t x).length := by
    have := nodup_le (inj t) (B := L.filter fun x => !t x) fun y hy => by
      obtain ⟨x, hx, rfl⟩ := List.mem_map.1 hy
      obtain ⟨h1, h2⟩ := List.mem_filter.1 hx
      exact List.mem_filter.2 ⟨(hf x h1).1, by rw [ht x h1, h2]; rfl⟩
    simpa using this
  have b : (L.filter fun x => !t x).length ≤ (L.filter t).length := by
    have := nodup_le (inj fun x => !t x) (B := L.filter t) fun y hy => by
      obtain ⟨x, hx, rfl⟩ := List.mem_map.1 hy
      obtain ⟨h1, h2⟩ := List.mem_filter.1 hx
      exact List.mem_filter.2 ⟨(hf x h1).1, by rw [ht x h1]; exact h2⟩
    simpa using this
  have c : (L.filter t).length + (L.filter fun x => !t x).length = L.length := by
    clear a b inj hf ht nd
    induction L with
    | nil => rfl
    | cons x L ih =>
      simp only [List.filter_cons]
      cases t x <;> simp <;> omega
  omega

end Go.Fo

/-
  FormulaParts in plain form: the models with a literal, and those with its negation. No program here.
-/
set_option linter.unusedVariables false
set_option linter.unusedSimpArgs false
namespace Go.Fo
open Go Go.Cl

variable {m : List Bool} {x l : Int} {cs : List (List Int)} {c : List Int} {v : Nat}

def tru (m : List Bool) (x : Int) : Bool := (m[(varL x - 1).toNat]?.getD false) != decide (x < 0)
def hold (cs : List (List Int)) (m : List Bool) : Bool := cs.all fun c => c.any (tru m)
def asg (l : Int) (cs : List (List Int)) : List (List Int) := (cs.filter fun c => !c.contains l).map fun c => c.filter fun x => !(x == -l)
/-- Literals of the first v variables. -/
def InV (v : Nat) (cs : List (List Int)) : Prop := ∀ c ∈ cs, ∀ x ∈ c, rt x = true ∧ varL x ≤ v

theorem varL_pos (h : rt x = true) : 1 ≤ varL x := by
  have := rt_iff.1 h
  unfold varL; rw [if_pos h]; split <;> omega
theorem varL_neg (h : rt x = true) : varL (-x) = varL x := by
  have h0 := rt_iff.1 h
  have h1 : rt (-x) = true := rt_iff.2 (by omega)
  unfold varL; rw [if_pos h, if_pos h1]
  split <;> split <;> omega
theorem varL_eq {y : Int} (h : rt x = true) (hy : rt y = true) (e : varL x = varL y) : x = y ∨ x = -y := by
  have h0 := rt_iff.1 h
  have h1 := rt_iff.1 hy
  unfold varL at e
  rw [if_pos h, if_pos hy] at e
  split at e <;> split at e <;> omega
theorem tru_neg (h : rt x = true) : tru m (-x) = !tru m x := by
  have h0 := rt_iff.1 h
  unfold tru
  rw [varL_neg h]
  have e : decide (-x < 0) = !decide (x < 0) := by
    by_cases hx : x < 0
    · rw [decide_eq_true hx, decide_eq_false (by omega)]; rfl
    · rw [decide_eq_false hx, decide_eq_true (by omega)]; rfl
  rw [e]
  cases m[(varL x - 1).toNat]?.getD false <;> cases decide (x < 0) <;> rfl

/-- With the literal true, the formula is what is left of it. -/
theorem hold_asg (hl : rt l = true) (ht : tru m l = true) : hold (asg l cs) m = hold cs m := by
  have hn : tru m (-l) = false := by rw [tru_neg hl, ht]; rfl
  unfold hold asg
  rw [List.all_map, Bool.eq_iff_iff, List.all_eq_true, List.all_eq_true]
  constructor
  · intro h c hc
    rw [List.any_eq_true]
    by_cases hm : l ∈ c
    · exact ⟨l, hm, ht⟩
    · have := h c (List.mem_filter.2 ⟨hc, by simpa using hm⟩)
      obtain ⟨y, hy, hty⟩ := List.any_eq_true.1 this
      exact ⟨y, (List.mem_filter.1 hy).1, hty⟩
  · intro h c hc
    obtain ⟨y, hy, hty⟩ := List.any_eq_true.1 (h c (List.mem_filter.1 hc).1)
    show (List.any _ _) = true
    refine List.any_eq_true.2 ⟨y, List.mem_filter.2 ⟨hy, ?_⟩, hty⟩
    simp only [Bool.not_eq_true', beq_eq_false_iff_ne]
    rintro rfl
    rw [hn] at hty; cases hty

/-- The value of a literal's variable turned about. -/
def turn (l : Int) (m : List Bool) : List Bool := m.set (varL l - 1).toNat (!(m[(varL l - 1).toNat]?.getD false))
theorem turn_same (hl : rt l = true) (hx : rt x = true) (hv : varL l ≤ m.length) (h : varL x = varL l) : tru (turn l m) x = !tru m x := by
  have := varL_pos hl
  unfold tru turn
  rw [h, List.getElem?_set_self (by omega)]
  simp only [Option.getD_some]
  cases m[(varL l - 1).toNat]?.getD false <;> cases decide (x < 0) <;> rfl
theorem turn_other (hl : rt l = true) (hx : rt x = true) (h : varL x ≠ varL l) : tru (turn l m) x = tru m x := by
  have h1 := varL_pos hl
  have h2 := varL_pos hx
  unfold tru turn
  rw [List.getElem?_set_ne (by omega)]
theorem turn_turn (hl : rt l = true) (hv : varL l ≤ m.length) : turn l (turn l m) = m := by
  have := varL_pos hl
  have hi : (varL l - 1).toNat < m.length := by omega
  unfold turn
  rw [List.getElem?_set_self hi, List.set_set]
  simp only [Option.getD_some, Bool.not_not]
  rw [List.getElem?_eq_getElem hi]
  simp
/-- What is left does not depend on that variable. -/
theorem hold_turn (hl : rt l = true) (hc : InV v cs) (hm : m.length = v) : hold (asg l cs) (turn l m) = hold (asg l cs) m := by
  unfold hold asg
  rw [List.all_map, List.all_map, Bool.eq_iff_iff, List.all_eq_true, List.all_eq_true]
  have key : ∀ c ∈ cs.filter (fun c => !c.contains l), ∀ x ∈ c.filter (fun x => !(x == -l)), tru (turn l m) x = tru m x := by
    intro c hcf x hx
    obtain ⟨h1, h2⟩ := List.mem_filter.1 hcf
    obtain ⟨h3, h4⟩ := List.mem_filter.1 hx
    have hr := (hc c h1 x h3).1
    refine turn_other hl hr fun e => ?_
    rcases varL_eq hr hl e with rfl | rfl
    · simp [h3] at h2
    · simp at h4
  constructor
  · intro h c hcf
    obtain ⟨y, hy, hty⟩ := List.any_eq_true.1 (h c hcf)
    exact List.any_eq_true.2 ⟨y, hy, by rw [← key c hcf y hy]; exact hty⟩
  · intro h c hcf
    obtain ⟨y, hy, hty⟩ := List.any_eq_true.1 (h c hcf)
    exact List.any_eq_true.2 ⟨y, hy, by rw [key c hcf y hy]; exact hty⟩

theorem allB_nodup (v : Nat) : (Cr.allB v).Nodup := (Cr.allB_sorted v).imp fun {a b} h e => by
  subst e
  rw [Cr.ltB_irrefl] at h; cases h
abbrev mods (v : Nat) (cs : List (List Int)) : List (List Bool) := (Cr.allB v).filter (hold cs)
/-- Half of the models of what is left have the literal. -/
theorem mods_half (hl : rt l = true) (hv : varL l ≤ v) (hc : InV v cs) : (mods v (asg l cs)).length = 2 * ((mods v (asg l cs)).filter fun m => tru m l).length := by
  have hm : ∀ m ∈ mods v (asg l cs), m.length = v ∧ hold (asg l cs) m = true := fun m h => by
    obtain ⟨a, b⟩ := List.mem_filter.1 h
    exact ⟨Cr.mem_allB.1 a, b⟩
  refine half ((allB_nodup v).filter _) (f := turn l) (fun m h => ?_) fun m h => ?_
  · obtain ⟨a, b⟩ := hm m h
    refine ⟨List.mem_filter.2 ⟨Cr.mem_allB.2 (by simp [turn, a]), by rw [hold_turn hl hc a]; exact b⟩, turn_turn hl (by rw [a]; omega)⟩
  · obtain ⟨a, _⟩ := hm m h
    exact turn_same hl hl (by rw [a]; omega) rfl
/-- Those with the literal are the formula's own. -/
theorem mods_with (hl : rt l = true) : (mods v (asg l cs)).filter (fun m => tru m l) = (mods v cs).filter fun m => tru m l := by
  unfold mods
  rw [List.filter_filter, List.filter_filter]
  refine List.filter_congr fun m _ => ?_
  cases h : tru m l
  · rfl
  · rw [hold_asg hl h]
/-- FormulaParts: the numbers of models. -/
theorem mods_parts (hl : rt l = true) (hv : varL l ≤ v) (hc : InV v cs) : (mods v (asg l cs)).length % 2 = 0 ∧ (mods v (asg (-l) cs)).length % 2 = 0 ∧ (mods v cs).length = (mods v (asg l cs)).length / 2 + (mods v (asg (-l) cs)).length / 2 := by
  have h0 := rt_iff.1 hl
  have hn : rt (-l) = true := rt_iff.2 (by omega)
  have a := mods_half hl hv hc
  have b := mods_half hn (by rw [varL_neg hl]; exact hv) hc
  rw [mods_with hl] at a
  rw [mods_with hn] at b
  have e : ((mods v cs).filter fun m => tru m (-l)) = (mods v cs).filter fun m => !tru m l := List.filter_congr fun m _ => tru_neg hl
  rw [e] at b
  have c : ((mods v cs).filter fun m => tru m l).length + ((mods v cs).filter fun m => !tru m l).length = (mods v cs).length := by
    generalize mods v cs = L
    induction L with
    | nil => rfl
    | cons x L ih =>
      simp only [List.filter_cons]
      cases tru x l <;> simp <;> omega
  omega

end Go.Fo

/-
  FormulaParts, walked. PbTl: what stands behind the first lines, in each order of evaluation the same (printed by gen/mkfpa.py out of the F text).
-/
set_option linter.unusedVariables false
set_option linter.unusedSimpArgs false
namespace Go.Proofs.S
open Go Go.Sx Go.Proofs Go.Cl

def PbTl (b5 : Nat) (x : Int) (K : Bool → HP) : HP := fun h => (
 ldA (.cons (.int .i64) (.cons .sl .nil)) (⟨b5, 0, none⟩ : Addr) fun x6 =>
 callT Tryz.prog fn_formula_Assign #[(.agg #[(.int .i64 x6.1), (.slice x6.2.1.a x6.2.1.len x6.2.1.cap)]), (.int .i64 x)] (.tup (.cons (.agg (.cons (.int .i64) (.cons .sl .nil))) (.cons (.int .i64) .nil))) fun r7 =>
 nw #[(.int .i64 (0 : Int)), (.slice none 0 0)] ty_formula_Formula fun b8 =>
 st1 (⟨b8, 0, none⟩ : Addr) (.int .i64 r7.1.1) <|
 st1 ((⟨b8, 0, none⟩ : Addr).add 1) (.slice r7.1.2.1.a r7.1.2.1.len r7.1.2.1.cap) <|
 ldA (.cons (.int .i64) (.cons .sl .nil)) (⟨b5, 0, none⟩ : Addr) fun x9 =>
 callT Tryz.prog fn_formula_Assign #[(.agg #[(.int .i64 x9.1), (.slice x9.2.1.a x9.2.1.len x9.2.1.cap)]), (.int .i64 (IntKind.wrap .i64 (0 - x)))] (.tup (.cons (.agg (.cons (.int .i64) (.cons .sl .nil))) (.cons (.int .i64) .nil))) fun r10 =>
 nw #[(.int .i64 (0 : Int)), (.slice none 0 0)] ty_formula_Formula fun b11 =>
 st1 (⟨b11, 0, none⟩ : Addr) (.int .i64 r10.1.1) <|
 st1 ((⟨b11, 0, none⟩ : Addr).add 1) (.slice r10.1.2.1.a r10.1.2.1.len r10.1.2.1.cap) <|
 ldA (.cons (.int .i64) (.cons .sl .nil)) (⟨b5, 0, none⟩ : Addr) fun x12 =>
 callT Tryz.prog fn_salvorlaw05_collected #[(.agg #[(.int .i64 x12.1), (.slice x12.2.1.a x12.2.1.len x12.2.1.cap)])] (.tup (.cons .sl (.cons .bool .nil))) fun r13 =>
 ldA (.cons (.int .i64) (.cons .sl .nil)) (⟨b8, 0, none⟩ : Addr) fun x14 =>
 callT Tryz.prog fn_salvorlaw05_collected #[(.agg #[(.int .i64 x14.1), (.slice x14.2.1.a x14.2.1.len x14.2.1.cap)])] (.tup (.cons .sl (.cons .bool .nil))) fun r15 =>
 ldA (.cons (.int .i64) (.cons .sl .nil)) (⟨b11, 0, none⟩ : Addr) fun x16 =>
 callT Tryz.prog fn_salvorlaw05_collected #[(.agg #[(.int .i64 x16.1), (.slice x16.2.1.a x16.2.1.len x16.2.1.cap)])] (.tup (.cons .sl (.cons .bool .nil))) fun r17 =>
 jn (σ := Bool) (fun t19 =>
 jn (σ := Bool) (fun t21 =>
 jn (σ := Bool) (fun t23 =>
 jn (σ := Bool) (fun t25 =>
 jn (σ := Bool) (fun t27 =>
 jn (σ := Bool) (fun t29 =>
 brB t29
 (K false)
 (ldT .sl ((⟨b8, 0, none⟩ : Addr).add 1) fun x30 =>
 ldT .sl ((⟨b11, 0, none⟩ : Addr).add 1) fun x31 =>
 nw #[(.slice x30.a x30.len x30.cap), (.slice x31.a x31.len x31.cap)] ty_sl_clauses_Clause fun b32 =>
 callT Tryz.prog fn_slices_Concat_clauses_Clause_clauses_Clause #[(.slice (some (⟨b32, 0, none⟩ : Addr)) 2 2)] .sl fun r33 =>
 lfp (σ := (Int × (Bool × Unit))) (fun X34 s35 => 
 brB (decide (s35.1 < (r33.len : Int)))
 (sx r33.a r33.len s35.1 1 fun p36 =>
 ldT .sl p36 fun x37 =>
 callT Tryz.prog fn_lits_Vars #[(.slice x37.a x37.len x37.cap)] .sl fun r38 =>
 callT Tryz.prog fn_lits_Var #[(.int .i64 x)] (.int .i64) fun r39 =>
 callT Tryz.prog fn_slices_Contains_int_int #[(.slice r38.a r38.len r38.cap), (.int .i64 r39)] .bool fun r40 =>
 jn (σ := Bool) (fun t42 =>
 brB t42
 (K false)
 (X34 ((IntKind.wrap .i64 (s35.1 + (1 : Int))), s35.2.1, ())))
 (fun J41 =>
 brB r40
 (callT Tryz.prog fn_clauses_Always #[(.slice x37.a x37.len x37.cap)] .bool fun r43 =>
 J41 ((!r43)))
 (J41 false)))
 (lfp (σ := (Int × (Bool × Unit))) (fun X44 s45 => 
 brB (decide (s45.1 < (r13.1.len : Int)))
 (sx r13.1.a r13.1.len s45.1 1 fun p46 =>
 ldT .sl p46 fun x47 =>
 brB ((x47.len : Int) != (8 : Int))
 (K false)
 (callT Tryz.prog fn_lits_Var #[(.int .i64 x)] (.int .i64) fun r48 =>
 sx x47.a x47.len (IntKind.wrap .i64 (r48 - (1 : Int))) 1 fun p49 =>
 ldT .bool p49 fun x50 =>
 jn (σ := (Bool × Unit)) (fun s52 => 
 X44 ((IntKind.wrap .i64 (s45.1 + (1 : Int))), s52.1, ()))
 (fun J51 =>
 brB (x50 == (decide (x > (0 : Int))))
 (callF Tryz.prog (.func (.func fn_salvorlaw05_FormulaParts_1) #[] #[]) #[(.slice r15.1.a r15.1.len r15.1.cap), (.slice x47.a x47.len x47.cap)] .bool fun r53 =>
 brB (!r53)
 (K false)
 (J51 (s45.2.1, ())))
 (callF Tryz.prog (.func (.func fn_salvorlaw05_FormulaParts_1) #[] #[]) #[(.slice r17.1.a r17.1.len r17.1.cap), (.slice x47.a x47.len x47.cap)] .bool fun r54 =>
 brB (!r54)
 (K false)
 (J51 (s45.2.1, ()))))))
 (callT Tryz.prog fn_salvorlaw05_awake #[] .bool fun r55 =>
 K r55))
 ((0 : Int), s35.2.1, ())))
 ((0 : Int), false, ())))
 (fun J28 =>
 brB t27
 (J28 true)
 (nz (2 : Int) <|
 nz (2 : Int) <|
 J28 (((r13.1.len : Int) != (IntKind.wrap .i64 ((IntKind.wrap .i64 (Int.tdiv (r15.1.len : Int) (2 : Int))) + (IntKind.wrap .i64 (Int.tdiv (r17.1.len : Int) (2 : Int))))))))))
 (fun J26 =>
 brB t25
 (J26 true)
 (nz (2 : Int) <|
 J26 (((Int.tmod (r17.1.len : Int) (2 : Int)) != (0 : Int))))))
 (fun J24 =>
 brB t23
 (J24 true)
 (nz (2 : Int) <|
 J24 (((Int.tmod (r15.1.len : Int) (2 : Int)) != (0 : Int))))))
 (fun J22 =>
 brB t21
 (J22 true)
 (J22 ((!r17.2.1)))))
 (fun J20 =>
 brB t19
 (J20 true)
 (J20 ((!r15.2.1)))))
 (fun J18 =>
 brB ((IntKind.wrap .i64 (r7.2.1 + r10.2.1)) != (0 : Int))
 (J18 true)
 (J18 ((!r13.2.1))))) h

end Go.Proofs.S
