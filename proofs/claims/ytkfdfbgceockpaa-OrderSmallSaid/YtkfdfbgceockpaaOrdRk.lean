/-
  Orders that are none: what the functions answer. Orders of many variables, of which one was bumped.
-/
import Derived.Test.YtkfdfbgceockpaaOrdRj
set_option linter.unusedVariables false
set_option linter.unusedSimpArgs false
namespace Go.Proofs.Ord
open Go Go.Sx Go.Proofs

/-- No order: nil, or one that New has not made. -/
def NoO (h : Heap) (q : Option Addr) : Prop := q = none ∨ ∃ b t c, q = some ⟨b, 0, none⟩ ∧ Blk h b t c ∧ c[4]? = some (.bool false)
theorem NoO.ext {h h' : Heap} {q : Option Addr} (n : NoO h q) (x : Ext [] h h') : NoO h' q :=
  n.imp id fun ⟨b, t, c, e, k, hc⟩ => ⟨b, t, c, e, k.ext x (by simp), hc⟩

variable {h : Heap} {q : Option Addr}

theorem noIs_c (n : NoO h q) : callT Try.prog fn_order_Order_is #[.pointer q] .bool (fun r h' => r = false ∧ Ext [] h h') h := by
  refine callT_gen fun K hK => S_order_Order_is (a0 := q) K ?_
  unfold F_order_Order_is
  rcases n with rfl | ⟨b, t, c, rfl, k, hc⟩
  · exact brF rfl (hK _ _ ⟨rfl, Ext.refl _ _⟩)
  · refine brT rfl ?_
    rw [nn_some, addr_add, ld_bool (i := 0 + 4) k hc]
    exact hK _ _ ⟨rfl, Ext.refl _ _⟩
theorem noWrong_c (n : NoO h q) (v : Int) : callT Try.prog fn_order_Order_wrong #[.pointer q, .int .i64 v] (.int .i64) (fun r h' => r = 1 ∧ Ext [] h h') h := by
  refine callT_gen fun K hK => S_order_Order_wrong (a0 := q) (a1 := v) K ?_
  unfold F_order_Order_wrong
  refine call_of (noIs_c n) ?_
  rintro _ h' ⟨rfl, x⟩
  exact brT rfl (hK _ _ ⟨rfl, x⟩)
theorem noHas_c (n : NoO h q) (v : Int) : callT Try.prog fn_order_Order_Has #[.pointer q, .int .i64 v] .bool (fun r h' => r = false ∧ Ext [] h h') h := by
  refine callT_gen fun K hK => S_order_Order_Has (a0 := q) (a1 := v) K ?_
  unfold F_order_Order_Has
  refine call_of (noWrong_c n v) ?_
  rintro _ h' ⟨rfl, x⟩
  exact brF rfl (hK _ _ ⟨rfl, x⟩)
theorem noActivity_c (n : NoO h q) (v : Int) : callT Try.prog fn_order_Order_Activity #[.pointer q, .int .i64 v] (.tup (.cons (.int .i64) (.cons (.int .i64) .nil))) (fun r h' => r = (0, 1, ()) ∧ Ext [] h h') h := by
  refine callT_gen fun K hK => S_order_Order_Activity (a0 := q) (a1 := v) K ?_
  unfold F_order_Order_Activity
  refine call_of (noWrong_c n v) ?_
  rintro _ h' ⟨rfl, x⟩
  exact brT rfl (hK _ _ ⟨rfl, x⟩)
theorem noDecay_c (n : NoO h q) : callT Try.prog fn_order_Order_Decay #[.pointer q] (.int .i64) (fun r h' => r = 1 ∧ Ext [] h h') h := by
  refine callT_gen fun K hK => S_order_Order_Decay (a0 := q) K ?_
  unfold F_order_Order_Decay
  refine call_of (noIs_c n) ?_
  rintro _ h' ⟨rfl, x⟩
  exact brT rfl (hK _ _ ⟨rfl, x⟩)
theorem noLen_c (n : NoO h q) : callT Try.prog fn_order_Order_Len #[.pointer q] (.int .i64) (fun r h' => r = 0 ∧ Ext [] h h') h := by
  refine callT_gen fun K hK => S_order_Order_Len (a0 := q) K ?_
  unfold F_order_Order_Len
  refine call_of (noIs_c n) ?_
  rintro _ h' ⟨rfl, x⟩
  exact brT rfl (hK _ _ ⟨rfl, x⟩)
theorem noStep_c (n : NoO h q) : callT Try.prog fn_order_Order_Step #[.pointer q] (.int .i64) (fun r h' => r = 0 ∧ Ext [] h h') h := by
  refine callT_gen fun K hK => S_order_Order_Step (a0 := q) K ?_
  unfold F_order_Order_Step
  refine call_of (noIs_c n) ?_
  rintro _ h' ⟨rfl, x⟩
  exact brT rfl (hK _ _ ⟨rfl, x⟩)
theorem noVars_c (n : NoO h q) : callT Try.prog fn_order_Order_Vars #[.pointer q] (.int .i64) (fun r h' => r = 0 ∧ Ext [] h h') h := by
  refine callT_gen fun K hK => S_order_Order_Vars (a0 := q) K ?_
  unfold F_order_Order_Vars
  refine call_of (noIs_c n) ?_
  rintro _ h' ⟨rfl, x⟩
  exact brT rfl (hK _ _ ⟨rfl, x⟩)
theorem noRemove_c (n : NoO h q) (v : Int) : callT Try.prog fn_order_Order_Remove #[.pointer q, .int .i64 v] (.int .i64) (fun r h' => r = 1 ∧ Ext [] h h') h := by
  refine callT_gen fun K hK => S_order_Order_Remove (a0 := q) (a1 := v) K ?_
  unfold F_order_Order_Remove
  refine call_of (noWrong_c n v) ?_
  rintro _ h' ⟨rfl, x⟩
  exact brT rfl (hK _ _ ⟨rfl, x⟩)
theorem noPush_c (n : NoO h q) (v : Int) : callT Try.prog fn_order_Order_Push #[.pointer q, .int .i64 v] (.int .i64) (fun r h' => r = 1 ∧ Ext [] h h') h := by
  refine callT_gen fun K hK => S_order_Order_Push (a0 := q) (a1 := v) K ?_
  unfold F_order_Order_Push
  refine call_of (noWrong_c n v) ?_
  rintro _ h' ⟨rfl, x⟩
  exact brT rfl (hK _ _ ⟨rfl, x⟩)
theorem noBump_c (n : NoO h q) (v : Int) : callT Try.prog fn_order_Order_Bump #[.pointer q, .int .i64 v] (.int .i64) (fun r h' => r = 1 ∧ Ext [] h h') h := by
  refine callT_gen fun K hK => S_order_Order_Bump (a0 := q) (a1 := v) K ?_
  unfold F_order_Order_Bump
  have st := Hs.start h [] (by simp)
  refine st.nw fun b0 h1 st => ?_
  rw [st.ldp 0 0 rfl rfl]
  refine call_of (noWrong_c (n.ext (st.frame (by simp))) v) ?_
  rintro _ h' ⟨rfl, x⟩
  exact brT rfl (hK _ _ ⟨rfl, (st.ext x).frame (by simp)⟩)
theorem noPeek_c (n : NoO h q) : callT Try.prog fn_order_Order_Peek #[.pointer q] (.tup (.cons (.int .i64) (.cons .bool .nil))) (fun r h' => r = (0, false, ()) ∧ Ext [] h h') h := by
  refine callT_gen fun K hK => S_order_Order_Peek (a0 := q) K ?_
  unfold F_order_Order_Peek
  refine call_of (noIs_c n) ?_
  rintro _ h' ⟨rfl, x⟩
  exact brT rfl (hK _ _ ⟨rfl, x⟩)
theorem noPop_c (n : NoO h q) : callT Try.prog fn_order_Order_Pop #[.pointer q] (.tup (.cons (.int .i64) (.cons .bool .nil))) (fun r h' => r = (0, false, ()) ∧ Ext [] h h') h := by
  refine callT_gen fun K hK => S_order_Order_Pop (a0 := q) K ?_
  unfold F_order_Order_Pop
  refine call_of (noPeek_c n) ?_
  rintro _ h' ⟨rfl, x⟩
  refine jn_in fun J hJ => brF rfl (hJ _ _ (hK _ _ ⟨rfl, x⟩))
theorem noAll_c (n : NoO h q) : callT Try.prog fn_order_Order_All #[.pointer q] .val (fun r h' => ∃ b, r = .func (.func 39) #[] #[.pointer (pt b)] ∧ Blk h' b 24 [.pointer q] ∧ Ext [] h h') h := by
  refine callT_gen fun K hK => S_order_Order_All (a0 := q) K ?_
  unfold F_order_Order_All
  have st := Hs.start h [] (by simp)
  refine st.nw fun b0 h1 st => ?_
  exact hK _ _ ⟨b0, rfl, st.blk 0 rfl, st.frame (by simp)⟩
theorem noAll_iter {τ : Ty} {b : Nat} (n : NoO h q) (kb : Blk h b 24 [.pointer q]) : IterSpec Try.prog τ (.func (.func 39) #[] #[.pointer (pt b)]) h (fun _ _ => False) (fun pre => pre = []) [] [] := by
  intro A D B0 hB0 sA sD yl hy hA
  have key : callF Try.prog (.func (.func 39) #[] #[.pointer (pt b)]) #[yl] (.tup .nil) (fun _ h2 => ∃ B', (∃ pre, pre = [] ∧ A pre B' h2) ∨ D B' h2) h := by
    refine callF_func (S_order_Order_All_1 (a0 := yl) (c0 := ⟨b, 0, none⟩) _ ?_)
    unfold F_order_Order_All_1
    rw [ld_ptr (i := 0) kb rfl]
    refine call_of (noIs_c n) ?_
    rintro _ h' ⟨rfl, x⟩
    refine brT rfl ?_
    exact ⟨B0, .inl ⟨[], rfl, sA [] B0 h h' [] hA x (by simp)⟩⟩
  exact CallV.mono key fun v h2 ⟨_, _, r⟩ => r

/-! ### many variables -/

theorem bump_last {n : Nat} (h1 : 1 ≤ n) : srt (bumpA (zeros (n + 1)) n n 1024) (iota n) = (n : Int) :: iota (n - 1) ∧ bumpS (zeros (n + 1)) n n 1024 = 1024 := by
  have hv : 1 ≤ (n : Int) ∧ (n : Int) ≤ n := by omega
  have e1 : g (zeros (n + 1)) n = 0 := g_zeros
  have eA : bumpA (zeros (n + 1)) n n 1024 = (zeros (n + 1)).set n 1024 := by
    unfold bumpA
    rw [if_pos hv, Int.toNat_natCast, e1, if_neg (by simp only [maxA]; omega)]; rfl
  have eS : bumpS (zeros (n + 1)) n n 1024 = 1024 := by
    unfold bumpS
    rw [if_pos hv, Int.toNat_natCast, e1, if_neg (by simp only [maxA]; omega)]
  refine ⟨?_, eS⟩
  rw [eA]
  have gset : ∀ j, g ((zeros (n + 1)).set n 1024) j = if j = n then 1024 else 0 := by
    intro j
    rw [g_set, g_zeros]
    by_cases hj : j = n
    · subst hj; simp [zeros]
    · rw [if_neg (fun h => hj h.1.symm), if_neg hj]
  have hmem : ∀ x ∈ iota (n - 1), 1 ≤ x ∧ x < n := by
    intro x hx
    obtain ⟨k, hk, rfl⟩ := List.mem_map.1 hx
    simp at hk
    omega
  have hs : Sorted ((zeros (n + 1)).set n 1024) ((n : Int) :: iota (n - 1)) := by
    refine List.pairwise_cons.2 ⟨fun x hx => ?_, ?_⟩
    · have := hmem x hx
      rw [bef_iff, gset, gset, Int.toNat_natCast, if_pos rfl, if_neg (by omega)]
      left; decide
    · refine (sorted_iota (n + 1) (n - 1)).imp_of_mem fun {a b} ha hb hab => ?_
      have h1 := hmem a ha
      have h2 := hmem b hb
      rw [bef_zeros] at hab
      have hab := of_decide_eq_true hab
      rw [bef_iff, gset, gset, if_neg (by omega), if_neg (by omega)]
      right; exact ⟨rfl, hab⟩
  refine (hs.eq_srt ?_).symm
  obtain ⟨m, rfl⟩ : ∃ m, n = m + 1 := ⟨n - 1, by omega⟩
  rw [iota_succ, show m + 1 - 1 = m by omega]
  have : (((m + 1 : Nat) : Int)) = (m : Int) + 1 := by omega
  rw [this]
  exact (List.perm_append_singleton _ _).symm

end Go.Proofs.Ord
