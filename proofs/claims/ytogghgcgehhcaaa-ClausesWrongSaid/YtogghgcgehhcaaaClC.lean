/-
  The package clauses: sorted and normal.
-/
import Derived.Test.YtogghgcgehhcaaaClB
set_option linter.unusedVariables false
namespace Go.Proofs.S
open Go Go.Sx Go.Proofs Go.Cl

variable {h : Heap} {c d : List Int} {s s2 : Sl} {fr : Fr} {G As : List Asn}

abbrev sortedV (b : Nat) : Value := .func (.func fn_clauses_sorted_1) #[] #[.pointer (some ⟨b, 0, none⟩)]

theorem Hs.sorted (st : Hs fr G As h) {K : Value → HP} (hK : ∀ b h', Hs fr G (As ++ [cl b ty_clauses_Clause [.slice s.a s.len s.cap]]) h' → K (sortedV b) h') :
    callT Try.prog fn_clauses_sorted #[.slice s.a s.len s.cap] .val K h := by
  refine S_clauses_sorted (a0 := s) K ?_
  unfold F_clauses_sorted
  exact Hs.nw st fun b h' st => hK b h' st

theorem dd_drop {ys : List Int} {i : Nat} (hi : i < ys.length) (last : Int) : dd last (ys.drop i) = if ys[i] = last then dd last (ys.drop (i + 1)) else ys[i] :: dd ys[i] (ys.drop (i + 1)) := by
  rw [List.drop_eq_getElem_cons hi, dd]

theorem sorted_iterU {b : Nat} {t0 : TypeId} (kb : Blk h b t0 [.slice s.a s.len s.cap]) (hA : At h (li c s)) (hlenC : c.length ≤ 1048576) (hrt : ∀ x ∈ c, rt x = true) :
    IterSpec Try.prog (.cons i64 .nil) (sortedV b) h (nxL (nrm c)) (finL (nrm c)) [] [] := by
  refine iter_of (G := []) (by simp) (by simp) ?_
  intro A D B0 yl cl' it K hfin hD
  refine callF_func (S_clauses_sorted_1 (a0 := yl) (c0 := ⟨b, 0, none⟩) K ?_)
  unfold F_clauses_sorted_1
  rw [ld_sl (i := 0) kb rfl]
  refine call_of (values_c (s := s) trivial) ?_
  rintro fv h1 ⟨b1, rfl, kb1, x1⟩
  refine call_of (sorted_row_c (hA.ext x1) hlenC kb1) ?_
  rintro s' h2 ⟨ys, hp, hs, hn, x2⟩
  have hnrm := nrm_of_sorted hp hs hrt
  have x12 := x1.nil_trans x2
  obtain ⟨S0, st0, hback⟩ := it.open cl'
  have hn' : New h.size h2 (lo ys s') := hn.mono x1.1
  have it := hback _ h2 (st0.new x12 hn')
  simp only [List.nil_append] at it
  have hlen : ys.length ≤ 1048576 := by rw [hp.length_eq]; exact hlenC
  refine lfp_invh (I := fun m σ h' => ∃ (i : Nat) (last : Int) (pre : List (Int × Unit)) (B : List Nat), σ = ((i : Int), last, ()) ∧ i ≤ ys.length ∧ pre.map (·.1) ++ dd last (ys.drop i) = nrm c ∧ It h [] A [] [lo ys s'] pre B h' ∧ m = ys.length - i)
    ⟨_, 0, 0, [], B0, rfl, by omega, by simpa using hnrm, it, rfl⟩ ?_
  clear it
  rintro m σ h3 X ⟨i, last, pre, B, rfl, hi, hpre, it, em⟩ hX
  have hA3 : At h3 (lo ys s') := by
    obtain ⟨S, st, _⟩ := it.open cl'
    exact st.own 0 rfl
  have l1 := osl_len hA3
  by_cases hlt : i < ys.length
  · rw [show decide ((i : Int) < (s'.len : Int)) = true by rw [l1]; exact dlt_t hlt, brB_true]
    rw [inc_i (show i < 4611686018427387904 by omega)]
    rw [dd_drop hlt] at hpre
    refine jn_in fun J hJ => ?_
    refine rdE (τ := i64) hA3.rsl hlt ?_
    by_cases hel : ys[i] = last
    · have e : (ys[i] == last) = true := by simp [hel]
      rw [if_pos hel] at hpre
      rw [e, brB_true]
      exact hJ _ _ (hX _ _ _ ⟨i + 1, last, pre, B, rfl, by omega, hpre, it, rfl⟩ (by omega))
    · have e : (ys[i] == last) = false := by simp [hel]
      rw [if_neg hel] at hpre
      rw [e, brB_false]
      refine It.yield (τ := .cons i64 .nil) cl' it (x := (ys[i], ())) ⟨_, hpre⟩ (fun B' h4 it2 => ?_) (fun B' h4 hd => ?_)
      · simp only [Bool.not_true, brB_false]
        refine hJ _ _ (hX _ _ _ ⟨i + 1, ys[i], _, B', rfl, by omega, ?_, it2, rfl⟩ (by omega))
        rw [List.map_append, List.append_assoc]; exact hpre
      · simp only [Bool.not_false, brB_true]
        exact hD B' h4 hd
  · rw [show decide ((i : Int) < (s'.len : Int)) = false by rw [l1]; exact dlt_f hlt, brB_false]
    rw [List.drop_eq_nil_of_le (by omega)] at hpre
    refine hfin pre B h3 ?_ it.1
    show pre.map (·.1) = nrm c
    rw [← hpre]; simp [dd]

theorem sorted_iter {b : Nat} {t0 : TypeId} (kb : Blk h b t0 [.slice s.a s.len s.cap]) (hA : At h (li c s)) (hr : rightC c = true) :
    IterSpec Try.prog (.cons i64 .nil) (sortedV b) h (nxL (nrm c)) (finL (nrm c)) [] [] := sorted_iterU kb hA (by have := rightC_len hr; omega) (rightC_rt hr)

/-- The iterator, for a walk that has the clause frozen, or reads it. -/
theorem sorted_hit {b : Nat} {t0 : TypeId} (kb : Blk h b t0 [.slice s.a s.len s.cap]) (hA : At h (li c s)) (hr : rightC c = true) (S : List Nat) :
    ∃ F : List Nat, (∀ x ∈ F, x < h.size ∧ x ∉ S) ∧ ∀ h1, NewL h h1 → IterSpec Try.prog (.cons i64 .nil) (sortedV b) h1 (nxL (nrm c)) (finL (nrm c)) F [] :=
  ⟨[], by simp, fun h1 hn => sorted_iter (kb.ext hn.1 (by simp)) (hA.ext hn.1) hr⟩

theorem normal_u (hA : At h (li c s)) (hl2 : c.length ≤ 1048576) (hrt : ∀ x ∈ c, rt x = true) : callT Try.prog fn_clauses_normal #[.slice s.a s.len s.cap] .sl (fun s' h' => New h.size h' (lo (nrm c) s') ∧ Ext [] h h') h := by
  refine S_clauses_normal (a0 := s) _ ?_
  unfold F_clauses_normal
  have st := Hs.start h [] (by simp)
  refine Hs.nw (st.nil ty_lits_Lit i64.enc none) fun b0 h1 st => ?_
  have hA1 := hA.ext (st.frame (by simp))
  refine Hs.sorted st fun b h2 st => ?_
  have hA2 := hA.ext (st.frame (by simp))
  have hl := nrm_length c
  have kb := st.blk 2 rfl
  refine Hs.collect (P := Try.prog) (τ := i64) (xs := []) (L := nrm c) (s := ⟨none, 0, 0⟩) (t := ty_lits_Lit) (by_ := 8) st 0 1 (by decide) rfl rfl leaf_int (by simp; omega) (by decide) (fun S hz hf => ⟨[], by simp, fun h1 hn => sorted_iterU (kb.ext hn.1 (by simp)) (hA2.ext hn.1) hl2 hrt⟩) fun s' h3 st => ?_
  rw [st.lds 1 0 rfl rfl]
  intro h4 hm
  have st := st.marked hm
  exact ⟨st.res (by simp) 0 rfl, st.frame (by simp)⟩

theorem normal_c (hA : At h (li c s)) (hr : rightC c = true) : callT Try.prog fn_clauses_normal #[.slice s.a s.len s.cap] .sl (fun s' h' => New h.size h' (lo (nrm c) s') ∧ Ext [] h h') h :=
  normal_u hA (by have := rightC_len hr; omega) (rightC_rt hr)

end Go.Proofs.S
