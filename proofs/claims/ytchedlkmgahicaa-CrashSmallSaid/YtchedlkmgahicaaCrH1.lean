/-
  The reference of the crash seat: the copies for it, Right, Check, Valid.
-/
import Derived.Test.YtchedlkmgahicaaCrG
set_option linter.unusedVariables false
set_option linter.unusedSimpArgs false
namespace Go.Proofs.S
open Go Go.Sx Go.Proofs Go.Cr

variable {h : Heap} {l a b : List Ent} {k k2 : List Bool} {m m2 : List Int} {s s2 s3 : Sl} {fr : Fr} {G As : List Asn}

abbrev W32 (m : List Int) : Prop := ∀ w ∈ m, 0 ≤ w ∧ w < 4294967296
abbrev WE (l : List Ent) : Prop := ∀ x ∈ l, 0 ≤ x.2.1 ∧ x.2.1 < 4294967296

theorem leafR (x : Ent) : ∀ u ∈ tR.vals x, leafB u = true := by
  intro u hu
  simp only [Ty.vals, Ty.ev, List.mem_cons, List.not_mem_nil, or_false] at hu
  rcases hu with rfl | rfl | rfl <;> rfl

theorem brB_split {b : Bool} {A B : HP} (hA : b = true → A h) (hB : b = false → B h) : brB b A B h := by
  cases b with
  | true => exact hA rfl
  | false => exact hB rfl

/-! ### the copies -/

theorem theirs_c (hA : At h (le l s)) (hl : l.length ≤ 1099511627776) (hw : WE l) : callT Try.prog fn_salvorlaw35_Theirs #[.slice s.a s.len s.cap] .sl (fun s' h' => New h.size h' (orr l s') ∧ Ext [] h h') h := by
  refine callT_gen fun K hK => S_salvorlaw35_Theirs (a0 := s) K ?_
  unfold F_salvorlaw35_Theirs
  have l1 := rsn_len hA
  have st := (Hs.start h [le l s] (by simp [hA])).niln ty_salvorref35_Entry 3 tR.vals none
  refine lfp_invh (I := fun m σ h' => ∃ (i : Nat) (s' : Sl), σ = ((i : Int), s', ()) ∧ i ≤ l.length ∧ Hs [([], h)] [le l s] [orr (l.take i) s'] h' ∧ m = l.length - i) ⟨_, 0, ⟨none, 0, 0⟩, rfl, by omega, st, rfl⟩ ?_
  clear st
  rintro m σ h2 X ⟨i, s', rfl, hi, st, em⟩ hX
  simp only
  by_cases hlt : i < l.length
  · rw [show decide ((i : Int) < (s.len : Int)) = true by rw [l1]; exact dlt_t hlt, brB_true, inc_i (show i < 4611686018427387904 by omega)]
    refine Hs.rdEnt st (st.fz 0 rfl) hlt fun b h3 st => ?_
    simp only [addr_add, Nat.zero_add, List.cons_append, List.nil_append] at st ⊢
    obtain ⟨w0, w1⟩ := hw _ (List.getElem_mem hlt)
    rw [st.ldi 1 0 rfl rfl, st.ldi 1 1 rfl rfl, st.ldi 1 2 rfl rfl, wrap_i64 (by omega) (by omega)]
    refine st.nw fun b8 h4 st => ?_
    simp only [List.cons_append, List.nil_append] at st
    refine Hs.apdN (v := l[i]) st wideR (by decide) 0 2 rfl rfl (by decide) (leafR _) (by simp; omega) (by decide) rfl fun s9 h5 st => ?_
    refine hX _ _ _ ⟨i + 1, s9, rfl, by omega, ?_, rfl⟩ (by omega)
    rw [take_succ_getE hlt]
    exact (st.drop 2 rfl).drop 1 rfl
  · rw [show decide ((i : Int) < (s.len : Int)) = false by rw [l1]; exact dlt_f hlt, brB_false]
    rw [List.take_of_length_le (by omega)] at st
    exact hK _ _ ⟨st.res (by simp) 0 rfl, st.frame (by simp)⟩

theorem nums_c (hA : At h (lw m s)) (hl : m.length ≤ 1099511627776) (hw : W32 m) : callT Try.prog fn_salvorlaw35_nums #[.slice s.a s.len s.cap] .sl (fun s' h' => New h.size h' (oi m s') ∧ Ext [] h h') h := by
  refine callT_gen fun K hK => S_salvorlaw35_nums (a0 := s) K ?_
  unfold F_salvorlaw35_nums
  have l1 := rsl_len hA
  have st := (Hs.start h [lw m s] (by simp [hA])).nil ty_int i64.enc none
  refine lfp_invh (I := fun μ σ h' => ∃ (i : Nat) (s' : Sl), σ = ((i : Int), s', ()) ∧ i ≤ m.length ∧ Hs [([], h)] [lw m s] [oi (m.take i) s'] h' ∧ μ = m.length - i) ⟨_, 0, ⟨none, 0, 0⟩, rfl, by omega, st, rfl⟩ ?_
  clear st
  rintro μ σ h2 X ⟨i, s', rfl, hi, st, em⟩ hX
  simp only
  by_cases hlt : i < m.length
  · rw [show decide ((i : Int) < (s.len : Int)) = true by rw [l1]; exact dlt_t hlt, brB_true, inc_i (show i < 4611686018427387904 by omega)]
    refine rdE (τ := u32) (st.fz 0 rfl) hlt ?_
    obtain ⟨w0, w1⟩ := hw _ (List.getElem_mem hlt)
    rw [wrap_i64 (by omega) (by omega)]
    refine st.nw fun b4 h4 st => ?_
    simp only [List.cons_append, List.nil_append] at st
    refine Hs.apd (enc := i64.enc) (v := m[i]) st 0 1 rfl rfl (by decide) rfl (by simp; omega) (by decide) rfl fun s5 h5 st => ?_
    refine hX _ _ _ ⟨i + 1, s5, rfl, by omega, ?_, rfl⟩ (by omega)
    rw [take_succ_getE hlt]
    exact st.drop 1 rfl
  · rw [show decide ((i : Int) < (s.len : Int)) = false by rw [l1]; exact dlt_f hlt, brB_false]
    rw [List.take_of_length_le (by omega)] at st
    exact hK _ _ ⟨st.res (by simp) 0 rfl, st.frame (by simp)⟩

theorem equal_int (hA : At h (li m s)) (hB : At h (li m2 s2)) (hl : m.length ≤ 1099511627776) : callT Try.prog fn_slices_Equal_int_int #[.slice s.a s.len s.cap, .slice s2.a s2.len s2.cap] .bool (fun r h' => r = decide (m = m2) ∧ h' = h) h :=
  callT_gen fun K hK => S_slices_Equal_int_int (a0 := s) (a1 := s2) K (w_equal (τ := i64) bne_iffI hA hB hl fun b hb => hK _ _ ⟨eq_of_iff hb, rfl⟩)

theorem words_c (hA : At h (lw m s)) (hB : At h (li m2 s2)) (hl : m.length ≤ 1099511627776) (hw : W32 m) : callT Try.prog fn_salvorlaw35_words #[.slice s.a s.len s.cap, .slice s2.a s2.len s2.cap] .bool (fun r h' => r = decide (m = m2) ∧ Ext [] h h') h := by
  refine callT_gen fun K hK => S_salvorlaw35_words (a0 := s) (a1 := s2) K ?_
  unfold F_salvorlaw35_words
  refine call_of (nums_c hA hl hw) ?_
  rintro r h1 ⟨n1, x1⟩
  refine call_of (equal_int n1.at.rsl (hB.ext x1) hl) ?_
  rintro r2 h2 ⟨e, rfl⟩
  exact hK _ _ ⟨e, x1⟩

abbrev lgb (xs : List (List Bool)) (s : Sl) : Asn := rsg (fun c p => lb c p) xs s
theorem equalFunc_bool {fv : Value} {K : Bool → HP} (hW : W_equalFunc Try.prog .sl .sl s s2 fv K h) : callT Try.prog fn_slices_EqualFunc_bool_bool_bool_bool #[.slice s.a s.len s.cap, .slice s2.a s2.len s2.cap, fv] .bool K h :=
  S_slices_EqualFunc_bool_bool_bool_bool (a0 := s) (a1 := s2) (a2 := fv) K hW
theorem equalFunc_word {fv : Value} {K : Bool → HP} (hW : W_equalFunc Try.prog .sl .sl s s2 fv K h) : callT Try.prog fn_slices_EqualFunc_bitword_Word_int_bitword_Word_int #[.slice s.a s.len s.cap, .slice s2.a s2.len s2.cap, fv] .bool K h :=
  S_slices_EqualFunc_bitword_Word_int_bitword_Word_int (a0 := s) (a1 := s2) (a2 := fv) K hW
theorem list_eq_iff {α : Type} [DecidableEq α] {us vs : List α} : (us.length = vs.length ∧ ∀ i (h1 : i < us.length) (h2 : i < vs.length), decide (us[i] = vs[i]) = true) ↔ us = vs := by
  constructor
  · rintro ⟨e, h⟩
    exact List.ext_getElem e fun i h1 h2 => of_decide_eq_true (h i h1 h2)
  · rintro rfl
    exact ⟨rfl, fun i _ _ => by simp⟩
theorem lists_c {us vs : List (List Bool)} (hA : At h (lgb us s)) (hB : At h (lgb vs s2)) (hl : us.length ≤ 1099511627776) (hu : ∀ x ∈ us, x.length ≤ 1099511627776) :
    callT Try.prog fn_salvorlaw35_lists #[.slice s.a s.len s.cap, .slice s2.a s2.len s2.cap] .bool (fun r h' => r = decide (us = vs) ∧ Ext [] h h') h := by
  refine callT_gen fun K hK => S_salvorlaw35_lists (a0 := s) (a1 := s2) K ?_
  unfold F_salvorlaw35_lists
  refine equalFunc_bool ?_
  refine w_equalFuncG (r := fun x y => decide (x = y)) hA hB hl (fun x hx y hy p q h' x' hp hq => ?_) fun b h' hb x' => hK _ _ ⟨?_, x'⟩
  · exact callF_func (call_of (equal_bool hp hq (hu x hx)) fun r h2 ⟨e, e2⟩ => ⟨e, by rw [e2]; exact Ext.refl' _ _⟩)
  · exact eq_of_iff (hb.trans list_eq_iff)

theorem equal_ents (hA : At h (lr a s)) (hB : At h (lr b s2)) (hl : a.length ≤ 1099511627776) : callT Try.prog fn_slices_Equal_salvorref35_Entry_salvorref35_Entry #[.slice s.a s.len s.cap, .slice s2.a s2.len s2.cap] .bool (fun r h' => (a = b → r = true) ∧ h' = h) h := by
  refine callT_gen fun K hK => S_slices_Equal_salvorref35_Entry_salvorref35_Entry (a0 := s) (a1 := s2) K ?_
  unfold F_slices_Equal_salvorref35_Entry_salvorref35_Entry
  have l1 := rsn_len hA
  have l2 := rsn_len hB
  by_cases hlen : a.length = b.length
  · rw [show ((s.len : Int) != (s2.len : Int)) = false by rw [l1, l2, hlen]; simp, brB_false]
    refine lfp_invh (I := fun μ σ h' => ∃ i : Nat, σ = ((i : Int), false, ()) ∧ i ≤ a.length ∧ h' = h ∧ μ = a.length - i) ⟨_, 0, rfl, by omega, rfl, rfl⟩ ?_
    rintro μ σ h' X ⟨i, rfl, hi, rfl, em⟩ hX
    simp only
    by_cases hlt : i < a.length
    · rw [show decide ((i : Int) < (s.len : Int)) = true by rw [l1]; exact dlt_t hlt, brB_true, inc_i (show i < 4611686018427387904 by omega)]
      refine rdN (τ := tR) hA hlt ?_
      refine rdN (τ := tR) hB (show i < b.length by omega) ?_
      by_cases he : a = b
      · have e : a[i] = b[i]'(by omega) := by subst he; rfl
        rw [e]
        simp only [beq_self_eq_true, Bool.and_self, Bool.not_true]
        rw [brB_false]
        exact hX _ _ _ ⟨i + 1, rfl, by omega, rfl, rfl⟩ (by omega)
      · refine brB_split (fun _ => hK _ _ ⟨fun e => absurd e he, rfl⟩) fun _ => ?_
        exact hX _ _ _ ⟨i + 1, rfl, by omega, rfl, rfl⟩ (by omega)
    · rw [show decide ((i : Int) < (s.len : Int)) = false by rw [l1]; exact dlt_f hlt, brB_false]
      exact hK _ _ ⟨fun _ => rfl, rfl⟩
  · rw [show ((s.len : Int) != (s2.len : Int)) = true by rw [l1, l2]; simp; omega, brB_true]
    exact hK _ _ ⟨fun e => absurd (by rw [e]) hlen, rfl⟩

/-! ### Right, Check -/

theorem rdB (hA : At h (lr l s)) {i : Nat} (hi : i < l.length) {K : Int → HP} (hK : K l[i].1 h) : sx s.a s.len (i : Int) 3 (fun p => ldT i64 p K) h :=
  rdN0 (σ := i64) hA hi (v := l[i].1) rfl hK
theorem rdW (hA : At h (lr l s)) {i : Nat} (hi : i < l.length) {K : Int → HP} (hK : K l[i].2.1 h) : sx s.a s.len (i : Int) 3 (fun p => ldT i64 (p.add 1) K) h :=
  rdNf (σ := i64) hA hi 1 (v := l[i].2.1) rfl hK
theorem rdEr (hA : At h (lr l s)) {i : Nat} (hi : i < l.length) {K : Int → HP} (hK : K (E l i) h) : sx s.a s.len (i : Int) 3 (fun p => ldT i64 (p.add 2) K) h :=
  rdNf (σ := i64) hA hi 2 (v := E l i) (by rw [E_get hi]; rfl) hK

theorem rRight_c (hA : At h (lr l s)) (hl : l.length ≤ 1099511627776) : callT Try.prog fn_salvorref35_Right #[.slice s.a s.len s.cap] .bool (fun r h' => r = rightL l ∧ h' = h) h := by
  refine callT_gen fun K hK => S_salvorref35_Right (a0 := s) K ?_
  unfold F_salvorref35_Right
  have l1 := rsn_len hA
  refine lfp_invh (I := fun μ σ h' => ∃ (i : Nat) (e : Int), σ = ((i : Int), false, ()) ∧ i ≤ l.length ∧ rightGo e (l.drop i) = rightGo 0 l ∧ 0 ≤ e ∧ (i = 0 → e = 0) ∧ (0 < i → e = E l (i - 1)) ∧ h' = h ∧ μ = l.length - i) ⟨_, 0, 0, rfl, by omega, rfl, by omega, fun _ => rfl, fun q => by omega, rfl, rfl⟩ ?_
  rintro μ σ h' X ⟨i, e, rfl, hi, hc, he, he0, he1, rfl, em⟩ hX
  simp only
  by_cases hlt : i < l.length
  · rw [show decide ((i : Int) < (s.len : Int)) = true by rw [l1]; exact dlt_t hlt, brB_true, inc_i (show i < 4611686018427387904 by omega)]
    rw [List.drop_eq_getElem_cons hlt] at hc
    simp only [rightGo] at hc
    have eE := E_get hlt
    have no : ¬ (0 ≤ l[i].1 ∧ l[i].1 < 16 ∧ e ≤ l[i].2.2.1) → rightL l = false := by
      intro q
      rw [rightL, ← hc]
      by_cases q1 : 0 ≤ l[i].1
      · by_cases q2 : l[i].1 < 16
        · rw [decide_eq_false (show ¬ e ≤ l[i].2.2.1 by omega)]; simp
        · rw [decide_eq_false q2]; simp
      · rw [decide_eq_false q1]; simp
    refine rdB hA hlt ?_
    by_cases h1 : l[i].1 < 0
    · rw [decide_eq_true h1, brB_true]
      exact hK _ _ ⟨(no (by omega)).symm, rfl⟩
    rw [decide_eq_false h1, brB_false]
    refine rdB hA hlt ?_
    by_cases h2 : l[i].1 > 15
    · rw [decide_eq_true h2, brB_true]
      exact hK _ _ ⟨(no (by omega)).symm, rfl⟩
    rw [decide_eq_false h2, brB_false]
    refine rdEr hA hlt ?_
    by_cases h3 : E l i < 0
    · rw [decide_eq_true h3, brB_true]
      exact hK _ _ ⟨(no (by omega)).symm, rfl⟩
    rw [decide_eq_false h3, brB_false]
    have fin : e ≤ l[i].2.2.1 → X (((i + 1 : Nat) : Int), false, ()) h' := fun q =>
      hX _ _ _ ⟨i + 1, l[i].2.2.1, rfl, by omega, by rw [← hc, decide_eq_true (show 0 ≤ l[i].1 by omega), decide_eq_true (show l[i].1 < 16 by omega), decide_eq_true q]; simp, by omega, fun q => by omega, fun _ => by rw [Nat.add_sub_cancel]; exact eE.symm, rfl, rfl⟩ (by omega)
    by_cases h0 : i = 0
    · rw [decide_eq_false (show ¬ (i : Int) > 0 by omega), brB_false]
      exact fin (by have := he0 h0; omega)
    · rw [decide_eq_true (show (i : Int) > 0 by omega), brB_true]
      have h1' := he1 (by omega)
      refine rdEr hA hlt ?_
      rw [dec_i (show i < 4611686018427387904 by omega) (by omega)]
      refine rdEr hA (show i - 1 < l.length by omega) ?_
      rw [← h1']
      by_cases h4 : E l i < e
      · rw [decide_eq_true h4, brB_true]
        exact hK _ _ ⟨(no (by omega)).symm, rfl⟩
      · rw [decide_eq_false h4, brB_false]
        exact fin (by omega)
  · rw [show decide ((i : Int) < (s.len : Int)) = false by rw [l1]; exact dlt_f hlt, brB_false]
    rw [List.drop_eq_nil_of_le (by omega), rightGo] at hc
    refine hK _ _ ⟨?_, rfl⟩
    rw [rightL, ← hc, l1, Bool.true_and]
    by_cases q : l.length ≤ 4096
    · rw [decide_eq_true q, decide_eq_true (by omega)]
    · rw [decide_eq_false q, decide_eq_false (by omega)]

theorem rCheck_c (hA : At h (lr l s)) (hB : At h (lb k s2)) (hl : l.length ≤ 1099511627776) :
    callT Try.prog fn_salvorref35_Check #[.slice s.a s.len s.cap, .slice s2.a s2.len s2.cap] (.int .i64) (fun r h' => r = checkC l k ∧ h' = h) h := by
  refine callT_gen fun K hK => S_salvorref35_Check (a0 := s) (a1 := s2) K ?_
  unfold F_salvorref35_Check
  have l1 := rsn_len hA
  have l2 := rsl_len hB
  refine call_of (rRight_c hA hl) ?_
  rintro r h1 ⟨er, rfl⟩
  have er : r = rightL l := er
  subst er
  unfold checkC at hK
  cases hr : rightL l with
  | false =>
    rw [if_neg (by simp [hr])] at hK
    rw [Bool.not_false, brB_true]; exact hK _ _ ⟨rfl, rfl⟩
  | true =>
    rw [if_pos hr] at hK
    rw [Bool.not_true, brB_false]
    by_cases e : k.length = l.length
    · rw [if_pos e] at hK
      rw [show ((s2.len : Int) != (s.len : Int)) = false by rw [l1, l2, e]; simp, brB_false]
      exact hK _ _ ⟨rfl, rfl⟩
    · rw [if_neg e] at hK
      rw [show ((s2.len : Int) != (s.len : Int)) = true by rw [l1, l2]; simp; omega, brB_true]
      exact hK _ _ ⟨rfl, rfl⟩

/-! ### Valid -/

/-- An epoch that splits the entries. -/
def goodE (l : List Ent) (k : List Bool) (e : Nat) : Prop := ∀ i, i < l.length → (E l i < E l e → K k i = true) ∧ (E l e < E l i → K k i = false)
theorem good_iff (hm : Mono l) (hl : 0 < l.length) : (∃ e, e < l.length ∧ goodE l k e) ↔ vld l k = true := by
  rw [vld_iff]
  constructor
  · rintro ⟨e, he, hg⟩ i hi hk j hj hlt
    by_cases q : E l e < E l i
    · have := (hg i hi).2 q
      rw [hk] at this; cases this
    · exact (hg j hj).1 (by omega)
  · intro hv
    by_cases hx : ∃ i, i < l.length ∧ K k i = true
    · -- the last one kept
      have key : ∀ n, (∃ i, i < n ∧ K k i = true) → ∃ i, i < n ∧ K k i = true ∧ ∀ j, i < j → j < n → K k j = false := by
        intro n
        induction n with
        | zero => rintro ⟨i, h, _⟩; omega
        | succ n ih =>
          rintro ⟨i, h1, h2⟩
          cases hn : K k n with
          | true => exact ⟨n, by omega, hn, fun j _ _ => by omega⟩
          | false =>
            have hin : i < n := by
              rcases Nat.lt_or_ge i n with q | q
              · exact q
              · have : i = n := by omega
                subst this; rw [hn] at h2; cases h2
            obtain ⟨i, a1, a2, a3⟩ := ih ⟨i, hin, h2⟩
            refine ⟨i, by omega, a2, fun j b1 b2 => ?_⟩
            rcases Nat.lt_or_ge j n with q | q
            · exact a3 j b1 q
            · have : j = n := by omega
              subst this; exact hn
      obtain ⟨e, he, hk, hlast⟩ := key _ hx
      refine ⟨e, he, fun i hi => ⟨fun q => hv e he hk i hi q, fun q => ?_⟩⟩
      refine hlast i ?_ hi
      rcases Nat.lt_or_ge e i with q2 | q2
      · exact q2
      · have := hm i e q2 he; omega
    · refine ⟨0, hl, fun i hi => ⟨fun q => ?_, fun _ => ?_⟩⟩
      · have := hm 0 i (Nat.zero_le _) hi; omega
      · cases hk : K k i with
        | false => rfl
        | true => exact absurd ⟨i, hi, hk⟩ hx

theorem rValid_c (hA : At h (lr l s)) (hB : At h (lb k s2)) (hl : l.length ≤ 1099511627776) (hk : k.length = l.length) (hm : Mono l) :
    callT Try.prog fn_salvorref35_Valid #[.slice s.a s.len s.cap, .slice s2.a s2.len s2.cap] .bool (fun r h' => r = vld l k ∧ h' = h) h := by
  refine callT_gen fun K hK => S_salvorref35_Valid (a0 := s) (a1 := s2) K ?_
  unfold F_salvorref35_Valid
  have l1 := rsn_len hA
  by_cases h0 : l.length = 0
  · rw [show ((s.len : Int) == (0 : Int)) = true by rw [l1, h0]; rfl, brB_true]
    exact hK _ _ ⟨(vld_iff.2 fun i hi => by omega).symm, rfl⟩
  rw [show ((s.len : Int) == (0 : Int)) = false by rw [l1]; exact beq_false_of_ne (by omega), brB_false]
  refine lfp_invh (I := fun μ σ h' => ∃ e : Nat, σ = ((e : Int), false, ()) ∧ e ≤ l.length ∧ (∀ e', e' < e → ¬ goodE l k e') ∧ h' = h ∧ μ = l.length - e) ⟨_, 0, rfl, by omega, fun _ q => by omega, rfl, rfl⟩ ?_
  rintro μ σ h' X ⟨e, rfl, he, hno, rfl, em⟩ hX
  simp only
  by_cases hlt : e < l.length
  · rw [show decide ((e : Int) < (s.len : Int)) = true by rw [l1]; exact dlt_t hlt, brB_true, inc_i (show e < 4611686018427387904 by omega)]
    refine rdEr hA hlt ?_
    refine lfp_invh (I := fun μ σ h2 => ∃ (i : Nat) (g : Bool), σ = ((i : Int), g, ()) ∧ i ≤ l.length ∧ (g = true ↔ ∀ j, j < i → (E l j < E l e → Cr.K k j = true) ∧ (E l e < E l j → Cr.K k j = false)) ∧ h2 = h' ∧ μ = l.length - i) ⟨_, 0, true, rfl, by omega, by simp, rfl, rfl⟩ ?_
    rintro μ2 σ h2 X2 ⟨i, g, rfl, hi, hg, rfl, em2⟩ hX2
    simp only
    by_cases hlt2 : i < l.length
    · rw [show decide ((i : Int) < (s.len : Int)) = true by rw [l1]; exact dlt_t hlt2, brB_true, inc_i (show i < 4611686018427387904 by omega)]
      have fin : ∀ g', (g' = true ↔ g = true ∧ ((E l i < E l e → Cr.K k i = true) ∧ (E l e < E l i → Cr.K k i = false))) → X2 (((i + 1 : Nat) : Int), g', ()) h2 := by
        intro g' hg'
        refine hX2 _ _ _ ⟨i + 1, g', rfl, by omega, ?_, rfl, rfl⟩ (by omega)
        rw [hg', hg]
        constructor
        · rintro ⟨q1, q2⟩ j hj
          rcases Nat.lt_or_ge j i with q | q
          · exact q1 j q
          · have : j = i := by omega
            subst this; exact q2
        · exact fun q => ⟨fun j hj => q j (by omega), q i (by omega)⟩
      have rdk : ∀ {K1 : Bool → HP}, K1 (Cr.K k i) h2 → sx s2.a s2.len (i : Int) 1 (fun p => ldT .bool p K1) h2 := fun hk2 =>
        rdE (τ := .bool) hB (show i < k.length by omega) (by rw [← K_get (show i < k.length by omega)]; exact hk2)
      refine rdEr hA hlt2 ?_
      by_cases q1 : E l i < E l e
      · rw [decide_eq_true q1, brB_true]
        refine rdk ?_
        cases hki : Cr.K k i with
        | false =>
          rw [Bool.not_false, brB_true]
          refine jn_in fun J hJ => hJ _ _ (fin false ?_)
          simp only [Bool.false_eq_true, false_iff, not_and]
          intro _ q; rw [hki] at q; cases q q1
        | true =>
          rw [Bool.not_true, brB_false]
          refine rdEr hA hlt2 ?_
          rw [decide_eq_false (show ¬ E l i > E l e by omega), brB_false]
          refine jn_in fun J hJ => hJ _ _ (fin g ?_)
          simp only [hki, implies_true, true_and, iff_self_and]
          intro _ q; omega
      · rw [decide_eq_false q1, brB_false]
        refine rdEr hA hlt2 ?_
        by_cases q2 : E l i > E l e
        · rw [decide_eq_true q2, brB_true]
          refine rdk ?_
          refine jn_in fun J hJ => ?_
          cases hki : Cr.K k i with
          | true =>
            rw [brB_true]
            refine hJ _ _ (fin false ?_)
            simp only [Bool.false_eq_true, false_iff, not_and]
            intro _ _ q; rw [hki] at q; cases q q2
          | false =>
            rw [brB_false]
            refine hJ _ _ (fin g ?_)
            simp only [hki, implies_true, and_true, iff_self_and]
            intro _ q; omega
        · rw [decide_eq_false q2, brB_false]
          refine jn_in fun J hJ => hJ _ _ (fin g ?_)
          simp only [iff_self_and]
          intro _; exact ⟨fun q => by omega, fun q => by omega⟩
    · rw [show decide ((i : Int) < (s.len : Int)) = false by rw [l1]; exact dlt_f hlt2, brB_false]
      have hge : g = true ↔ goodE l k e := by
        rw [hg]
        exact ⟨fun q j hj => q j (by omega), fun q j hj => q j (by omega)⟩
      cases g with
      | true =>
        rw [brB_true]
        exact hK _ _ ⟨((good_iff hm (by omega)).1 ⟨e, hlt, hge.1 rfl⟩).symm, rfl⟩
      | false =>
        rw [brB_false]
        refine hX _ _ _ ⟨e + 1, rfl, by omega, fun e' he' q => ?_, rfl, rfl⟩ (by omega)
        rcases Nat.lt_or_ge e' e with q2 | q2
        · exact hno e' q2 q
        · have : e' = e := by omega
          subst this
          cases hge.2 q
  · rw [show decide ((e : Int) < (s.len : Int)) = false by rw [l1]; exact dlt_f hlt, brB_false]
    refine hK _ _ ⟨?_, rfl⟩
    cases hv : vld l k with
    | false => rfl
    | true =>
      obtain ⟨e', he', q⟩ := (good_iff hm (by omega)).2 hv
      exact absurd q (hno e' (by omega))

end Go.Proofs.S
