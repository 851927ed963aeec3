/-
  The package clauses: Without, Holds, Within, Clashes, Normal: contracts.
-/
import Derived.Test.YtmlamkoilggonaaGreatClC
set_option linter.unusedVariables false
namespace Go.Proofs.S
open Go Go.Sx Go.Proofs Go.Cl

variable {h : Heap} {c d : List Int} {s s2 : Sl} {fr : Fr} {G As : List Asn}

theorem delete_c {S1 : List Nat} {fv : Value} {q : Int → Bool} (p : (lo c s).P S1 h) (hl : c.length ≤ 1099511627776) (hc : ∀ h', Ext S1 h h' → ∀ x ∈ c, callF Tryz.prog fv #[.int .i64 x] .bool (fun r h2 => r = q x ∧ Ext [] h' h2) h') :
    callT Tryz.prog fn_slices_DeleteFunc_clauses_Clause_lits_Lit #[.slice s.a s.len s.cap, fv] .sl (fun s' h' => (lo (c.filter (fun x => !q x)) s').P S1 h' ∧ Ext S1 h h') h :=
  callT_gen fun K hK => S_slices_DeleteFunc_clauses_Clause_lits_Lit (a0 := s) (a1 := fv) K
    (w_delete (P := Tryz.prog) (τ := i64) (t := ty_lits_Lit) (fi := fn_slices_IndexFunc_clauses_Clause_lits_Lit) (p := q) p hl rfl leaf_int (fun K hW => S_slices_IndexFunc_clauses_Clause_lits_Lit (a0 := s) (a1 := fv) K hW) hc fun s' h' a b => hK _ _ ⟨a, b⟩)

theorem without1_c {b : Nat} {t0 : TypeId} {l : Int} (kb : Blk h b t0 [.int .i64 l]) (x : Int) : callT Tryz.prog fn_clauses_Without_1 #[.int .i64 x, .pointer (some ⟨b, 0, none⟩)] .bool (fun r h' => r = (x == l) ∧ Ext [] h h') h := by
  refine callT_gen fun K hK => S_clauses_Without_1 (a0 := x) (c0 := ⟨b, 0, none⟩) K ?_
  unfold F_clauses_Without_1
  rw [ld_int (i := 0) kb rfl]
  exact hK _ _ ⟨rfl, Ext.refl' _ _⟩

theorem without_c (hA : At h (li c s)) (l : Int) : callT Tryz.prog fn_clauses_Without #[.slice s.a s.len s.cap, .int .i64 l] (.tup (.cons .sl (.cons (.int .i64) .nil)))
    (fun r h' => ∃ s', r = (s', (withoutP c l).2, ()) ∧ New h.size h' (lo (withoutP c l).1 s') ∧ Ext [] h h') h := by
  refine callT_gen fun K hK => S_clauses_Without (a0 := s) (a1 := l) K ?_
  unfold F_clauses_Without
  have st := Hs.start h [] (by simp)
  refine st.nw fun b0 h1 st => ?_
  refine call_of (right_c (hA.ext (st.frame (by simp)))) ?_
  rintro r h2 ⟨rfl, x2⟩
  have st := st.ext x2
  cases hr : rightC c with
  | false =>
    simp only [Bool.not_false, brB_true]
    exact hK _ _ ⟨⟨none, 0, 0⟩, by simp [withoutP, hr], by simp only [withoutP, hr]; exact osl_nil _ _, st.frame (by simp)⟩
  | true =>
    simp only [Bool.not_true, brB_false]
    rw [st.ldi 0 0 rfl rfl]
    refine call_of (clauses_wrong_c l) ?_
    rintro r h3 ⟨rfl, rfl⟩
    cases hl : rt l with
    | false =>
      simp only [Bool.not_false, brB_true]
      exact hK _ _ ⟨⟨none, 0, 0⟩, by simp [withoutP, hr, hl], by simp only [withoutP, hr, hl]; exact osl_nil _ _, st.frame (by simp)⟩
    | true =>
      simp only [Bool.not_true, brB_false]
      refine call_of (normal_c (hA.ext (st.frame (by simp))) hr) ?_
      rintro s4 h4 ⟨n4, x4⟩
      have st := (st.new x4 n4).freeze 0 rfl
      obtain ⟨S1, p, hG, hw⟩ := st.focusG 0 rfl
      refine call_of (delete_c (q := fun x => x == l) p (by have := nrm_length c; have := rightC_len hr; omega) (fun h' x y hy => callF_func ?_)) ?_
      · obtain ⟨_, _, kb⟩ := hG h' x (cl b0 ty_lits_Lit [.int .i64 l]) (by simp)
        exact without1_c kb y
      · rintro s5 h5 ⟨p5, x5⟩
        have st := hw _ S1 h5 x5 p5 (fun b hb => .inl hb)
        exact hK _ _ ⟨s5, by simp [withoutP, hr, hl], by simp only [withoutP, hr, hl]; exact st.res (by simp) 0 rfl, st.frame (by simp)⟩

theorem normal_is_c (hA : At h (li c s)) : callT Tryz.prog fn_clauses_Normal #[.slice s.a s.len s.cap] .bool (fun r h' => r = (rightC c && decide (c = nrm c)) ∧ Ext [] h h') h := by
  refine callT_gen fun K hK => S_clauses_Normal (a0 := s) K ?_
  unfold F_clauses_Normal
  refine call_of (right_c hA) ?_
  rintro r h1 ⟨rfl, x1⟩
  cases hr : rightC c with
  | false => simp only [brB_false]; exact hK _ _ ⟨by simp [hr], x1⟩
  | true =>
    simp only [brB_true]
    refine call_of (normal_c (hA.ext x1) hr) ?_
    rintro s3 h3 ⟨n3, x3⟩
    refine call_of (equal_clause ((hA.ext x1).ext x3) n3.at.rsl (by have := rightC_len hr; omega)) ?_
    rintro r h5 ⟨rfl, rfl⟩
    exact hK _ _ ⟨by simp [hr], x1.nil_trans x3⟩

theorem not_mem_take_succ {d : List Int} {i : Nat} {x : Int} (hi : i < d.length) (hp : x ∉ d.take i) (he : ¬ x = d[i]) : x ∉ d.take (i + 1) := by
  rw [take_succ_getE hi, List.mem_append]; rintro (k | k)
  · exact hp k
  · exact he (by simpa using k)
theorem any_con_f {c d : List Int} (hn : ∀ x ∈ c, x ∉ d) : (c.any fun x => d.contains x) = false := by
  rw [List.any_eq_false]; intro x hx; simpa using hn x hx
theorem any_con_t {c d : List Int} {x : Int} (hx : x ∈ c) (hd : x ∈ d) : (c.any fun x => d.contains x) = true := List.any_eq_true.2 ⟨x, hx, by simpa using hd⟩
theorem all_con_t {c d : List Int} (hn : ∀ x ∈ c, x ∈ d) : (c.all fun x => d.contains x) = true := by
  rw [List.all_eq_true]; intro x hx; simpa using hn x hx
theorem all_con_f {c d : List Int} {x : Int} (hx : x ∈ c) (hd : x ∉ d) : (c.all fun x => d.contains x) = false := List.all_eq_false.2 ⟨x, hx, by simpa using hd⟩
theorem mem_snoc1 {A : List Int} {x y : Int} (h : y ∈ A ++ [x]) : y ∈ A ∨ y = x := by simpa using h
theorem pre_snoc {pre : List (Int × Unit)} {x : Int} : (pre ++ [(x, ())]).map (·.1) = pre.map (·.1) ++ [x] := by simp
theorem filter_snoc {A : List Int} {x : Int} {p : Int → Bool} : (A ++ [x]).filter p = A.filter p ++ (if p x then [x] else []) := by
  rw [List.filter_append]; cases h : p x <;> simp [h]

theorem holds_c (hA : At h (li c s)) (hB : At h (li d s2)) (hl : d.length ≤ 1099511627776) : callT Tryz.prog fn_clauses_Holds #[.slice s.a s.len s.cap, .slice s2.a s2.len s2.cap] .bool (fun r h' => r = holdsP c d ∧ Ext [] h h') h := by
  refine callT_gen fun K hK => S_clauses_Holds (a0 := s) (a1 := s2) K ?_
  unfold F_clauses_Holds
  have st := Hs.start h [li d s2] (by simp [hB])
  refine st.nw fun b0 h1 st => ?_
  refine call_of (right_c (hA.ext (st.frame (by simp)))) ?_
  rintro r h2 ⟨rfl, x2⟩
  have st := st.ext x2
  cases hr : rightC c with
  | false =>
    simp only [Bool.not_false, brB_true]
    intro h4 hm
    have st := st.marked hm
    exact hK _ _ ⟨by simp [holdsP, hr], st.frame (by simp)⟩
  | true =>
    simp only [Bool.not_true, brB_false]
    refine st.nw fun b2 h3 st => ?_
    refine st.st1 1 0 rfl (by simp) fun h4 st => ?_
    refine Hs.sorted st fun b h5 st => ?_
    have hA5 := hA.ext (st.frame (by simp))
    have kb := st.blk 2 rfl
    refine jn_in fun J hJ => ?_
    refine st.range (P := Tryz.prog) (τ := .cons i64 .nil) (nxL (nrm c)) (finL (nrm c)) (fun S hz hf => sorted_hit kb hA5 hr S) (fun _ _ _ _ => rfl)
      (fun pre Bs => Bs = [cl b0 ty_sl_lits_Lit [.slice s2.a s2.len s2.cap], cl b2 ty_bool [.bool false], cl b ty_clauses_Clause [.slice s.a s.len s.cap]] ∧ ∀ x ∈ pre.map (·.1), x ∉ d)
      (fun j Bs => j = .exit 0 ∧ Bs = [cl b0 ty_sl_lits_Lit [.slice s2.a s2.len s2.cap], cl b2 ty_bool [.bool true], cl b ty_clauses_Clause [.slice s.a s.len s.cap]] ∧ ∃ x ∈ c, x ∈ d)
      ⟨rfl, by simp⟩ ?_ ?_ ?_ ?_
    · rintro pre ⟨x, ⟨⟩⟩ Bs B hb ⟨r, hr2⟩ ⟨rfl, hn⟩ st next jump hnext hjump
      have hx : x ∈ c := (mem_nrm hr).1 (by rw [← hr2]; simp)
      simp only
      rw [st.lds 0 0 rfl rfl]
      have hB6 := st.fz 0 rfl
      have l2 := rsl_len hB6
      refine lfp_invh (I := fun m σ h' => ∃ i : Nat, σ = ((i : Int), ()) ∧ i ≤ d.length ∧ x ∉ d.take i ∧ h' = hb ∧ m = d.length - i) ⟨_, 0, rfl, by omega, by simp, rfl, rfl⟩ ?_
      rintro m σ h' X ⟨i, rfl, hi, hp, rfl, em⟩ hX
      simp only
      by_cases hlt : i < d.length
      · rw [show decide ((i : Int) < (s2.len : Int)) = true by rw [l2]; exact dlt_t hlt, brB_true]
        rw [inc_i (show i < 4611686018427387904 by omega)]
        refine rdE (τ := i64) hB6 hlt ?_
        by_cases he : x = d[i]
        · have e : (x == d[i]) = true := by simp [he]
          rw [e, brB_true]
          refine st.st1 1 0 rfl (by simp) fun h7 st => ?_
          exact hjump (.exit 0) _ _ ⟨rfl, rfl, x, hx, by rw [he]; exact List.getElem_mem _⟩ st
        · have e : (x == d[i]) = false := by simp [he]
          rw [e, brB_false]
          exact hX _ _ _ ⟨i + 1, rfl, by omega, not_mem_take_succ hlt hp he, rfl, rfl⟩ (by omega)
      · rw [show decide ((i : Int) < (s2.len : Int)) = false by rw [l2]; exact dlt_f hlt, brB_false]
        rw [List.take_of_length_le (by omega)] at hp
        refine hnext _ _ ⟨rfl, fun y hy => ?_⟩ st
        rcases mem_snoc1 (pre_snoc ▸ hy) with hy | hy
        · exact hn y hy
        · subst hy; exact hp
    · rintro pre Bs h6 hf ⟨rfl, hn⟩ st
      refine hJ _ _ ?_
      rw [st.ldb 1 0 rfl rfl]
      intro h8 hm
      have st := st.marked hm
      refine hK _ _ ⟨?_, st.frame (by simp)⟩
      have := any_con_f (c := c) (d := d) fun x hx => hn x (by rw [show pre.map (·.1) = nrm c from hf]; exact (mem_nrm hr).2 hx)
      unfold holdsP; rw [this, hr]; rfl
    · rintro Bs h6 ⟨e, _⟩ st; cases e
    · rintro i id Kx hi hk Bs h6 ⟨_, rfl, x, hx, hd⟩ st
      cases i with
      | succ i => simp at hi
      | zero =>
        simp at hk; subst hk
        refine hJ _ _ ?_
        rw [st.ldb 1 0 rfl rfl]
        intro h8 hm
        have st := st.marked hm
        refine hK _ _ ⟨?_, st.frame (by simp)⟩
        have := any_con_t (c := c) (d := d) hx hd
        unfold holdsP; rw [this, hr]; rfl

theorem clash1_c {b : Nat} {t0 : TypeId} (kb : Blk h b t0 [.slice s2.a s2.len s2.cap]) (hB : At h (li d s2)) (hs : Strict d) (hl : d.length ≤ 4096) (x : Int) :
    callT Tryz.prog fn_clauses_Clashes_1 #[.int .i64 x, .pointer (some ⟨b, 0, none⟩)] .bool (fun r h' => r = d.contains (negL x) ∧ Ext [] h h') h := by
  refine callT_gen fun K hK => S_clauses_Clashes_1 (a0 := x) (c0 := ⟨b, 0, none⟩) K ?_
  unfold F_clauses_Clashes_1
  rw [ld_sl (i := 0) kb rfl]
  refine call_of (lits_Neg_c x) ?_
  rintro r h1 ⟨rfl, rfl⟩
  rw [ck_ok (i := 0) kb rfl]
  refine call_of (bs_c hB hs hl (negL x)) ?_
  rintro r h2 ⟨e, x2⟩
  exact hK _ _ ⟨e, x2⟩

theorem clashes_c (hA : At h (li c s)) (hB : At h (li d s2)) : callT Tryz.prog fn_clauses_Clashes #[.slice s.a s.len s.cap, .slice s2.a s2.len s2.cap] (.tup (.cons .sl (.cons (.int .i64) .nil)))
    (fun r h' => ∃ s', r = (s', (clashesP c d).2, ()) ∧ New h.size h' (lo (clashesP c d).1 s') ∧ Ext [] h h') h := by
  refine callT_gen fun K hK => S_clauses_Clashes (a0 := s) (a1 := s2) K ?_
  unfold F_clauses_Clashes
  have st := Hs.start h [] (by simp)
  refine call_of (right_c hA) ?_
  rintro r h2 ⟨rfl, x2⟩
  have st := st.ext x2
  cases hr : rightC c with
  | false =>
    simp only [Bool.not_false, brB_true]
    intro h4 hm
    have st := st.marked hm
    exact hK _ _ ⟨⟨none, 0, 0⟩, by simp [clashesP, hr], by simp only [clashesP, hr]; exact osl_nil _ _, st.frame (by simp)⟩
  | true =>
    simp only [Bool.not_true, brB_false]
    refine call_of (right_c (hB.ext (st.frame (by simp)))) ?_
    rintro r h3 ⟨rfl, x3⟩
    have st := st.ext x3
    cases hr2 : rightC d with
    | false =>
      simp only [Bool.not_false, brB_true]
      intro h4 hm
      have st := st.marked hm
      exact hK _ _ ⟨⟨none, 0, 0⟩, by simp [clashesP, hr2], by rw [show clashesP c d = ([], 20) by simp [clashesP, hr2]]; exact osl_nil _ _, st.frame (by simp)⟩
    | true =>
      simp only [Bool.not_true, brB_false]
      refine call_of (normal_c (hB.ext (st.frame (by simp))) hr2) ?_
      rintro s5 h5 ⟨n5, x5⟩
      have st := (st.new x5 n5).freeze 0 rfl
      refine st.nw fun b3 h6 st => ?_
      refine st.st1 0 0 rfl (by simp) fun h7 st => ?_
      refine st.nw fun b4 h8 st => ?_
      refine st.st1 1 0 rfl (by simp) fun h9 st => ?_
      refine st.nw fun b5 h10 st => ?_
      have st := st.nil ty_lits_Lit i64.enc none
      refine Hs.sorted st fun b h11 st => ?_
      have hA5 := hA.ext (st.frame (by simp))
      have kb := st.blk 4 rfl
      refine st.range (P := Tryz.prog) (τ := .cons i64 .nil) (nxL (nrm c)) (finL (nrm c)) (fun S hz hf => sorted_hit kb hA5 hr S) (fun _ _ _ _ => rfl)
        (fun pre Bs => ∃ s' : Sl, Bs = [cl b3 ty_clauses_Clause [.slice s5.a s5.len s5.cap], cl b4 ty_func_lits_Lit_bool [.func (.func fn_clauses_Clashes_1) #[] #[.pointer (some ⟨b3, 0, none⟩)]], cl b5 ty_sl_lits_Lit [.slice s'.a s'.len s'.cap], lo ((pre.map (·.1)).filter (fun l => d.contains (-l))) s', cl b ty_clauses_Clause [.slice s.a s.len s.cap]])
        (fun j Bs => False) ⟨⟨none, 0, 0⟩, rfl⟩ ?_ ?_ ?_ ?_
      · rintro pre ⟨x, ⟨⟩⟩ Bs B hb ⟨r, hr2'⟩ ⟨s', rfl⟩ st next jump hnext hjump
        have hx : x ∈ c := (mem_nrm hr).1 (by rw [← hr2']; simp)
        have hlen : pre.length < 4096 := by
          have h1 := congrArg List.length hr2'
          have := nrm_length c
          have := rightC_len hr
          simp at h1; omega
        simp only
        rw [st.ldv 1 0 rfl rfl]
        have hB6 := st.fz 0 rfl
        refine callF_func ?_
        refine call_of (clash1_c (st.blk 0 rfl) hB6.rsl (strict_nrm hr2) (by have := nrm_length d; have := rightC_len hr2; omega) x) ?_
        rintro r6 h6 ⟨e6, x6⟩
        have st := st.ext x6
        rw [negL_rt (rightC_rt hr x hx)] at e6
        have e7 : (nrm d).contains (-x) = d.contains (-x) := by
          rw [Bool.eq_iff_iff, List.contains_iff_mem, List.contains_iff_mem]; exact mem_nrm hr2
        rw [e6, e7]
        refine jn_in fun J hJ => ?_
        cases hd : d.contains (-x) with
        | true =>
          simp only [brB_true]
          rw [st.lds 2 0 rfl rfl]
          refine st.nw fun b16 h7 st => ?_
          refine st.apd (enc := i64.enc) (v := x) 3 5 rfl rfl (by decide) rfl ?_ (by decide) rfl fun s7 h8 st => ?_
          · have := List.length_filter_le (fun l => d.contains (-l)) (pre.map (·.1))
            simp at this; simp; omega
          refine st.st1 2 0 rfl (by simp) fun h9 st => ?_
          refine hJ _ _ (hnext _ _ ⟨s7, ?_⟩ (st.drop 5 rfl))
          rw [pre_snoc, filter_snoc]; simp only [hd, if_true]; rfl
        | false =>
          simp only [brB_false]
          refine hJ _ _ (hnext _ _ ⟨s', ?_⟩ st)
          rw [pre_snoc, filter_snoc]; simp only [hd, Bool.false_eq_true, if_false, List.append_nil]
      · rintro pre Bs h6 hf ⟨s', rfl⟩ st
        rw [show pre.map (·.1) = nrm c from hf] at st
        rw [st.lds 2 0 rfl rfl]
        intro h8 hm
        have st := st.marked hm
        exact hK _ _ ⟨s', by simp [clashesP, hr, hr2], by simp only [clashesP, hr, hr2]; exact st.res (by simp) 3 rfl, st.frame (by simp)⟩
      · rintro Bs h6 hf; exact hf.elim
      · intro i id Kx hi; simp at hi

end Go.Proofs.S
