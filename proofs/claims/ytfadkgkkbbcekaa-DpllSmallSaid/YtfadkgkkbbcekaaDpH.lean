/-
  The package dpll: the first model: contract of Under.
-/
import Derived.Test.YtfadkgkkbbcekaaDpF
import Derived.Test.YtfadkgkkbbcekaaFoL
import Derived.Test.YtfadkgkkbbcekaaSxW3
import Derived.Lib.Overlaps
set_option linter.unusedVariables false
set_option linter.unusedSimpArgs false
namespace Go.Proofs.S
open Go Go.Sx Go.Proofs Go.Cl Go.Dp

variable {h : Heap} {c d L : List Int} {s s2 sv : Sl} {fr : Fr} {G As : List Asn} {b sb v : Nat} {g : Int} {cs : List (List Int)}

theorem uA_of {b8 : Nat} {h' : Heap} (st : Hs [([], h)] G (cl b8 ty_dpll_Answer [.bool false, .slice none 0 0, .int .i64 0] :: As) h') : It h [] (uA h b8) [] As [] [b8] h' := by
  obtain ⟨S, ⟨S1, S2, e, hd, ⟨e1, kb⟩, hs⟩, _, hf⟩ := st
  obtain ⟨x, hin⟩ := hf ([], h) (by simp)
  simp only at x hin
  subst e1; subst e
  have hlow : ∀ b ∈ [b8] ++ S2, h.size ≤ b := fun b hb => (hin b hb).elim (fun q => by cases q) id
  exact ⟨⟨rfl, rfl, x, hlow b8 (by simp), kb⟩, x.1, by simp, by simp, fun b hb => by simp at hb; subst hb; exact kb.lt, S2, hs, fun b hb => ⟨hlow b (by simp [hb]), fun q => by simp at q; subst q; exact hd _ (by simp) hb⟩, by simp⟩

theorem inv_good {n : Nat} (hg : GoodF n cs) : Fo.InV n cs := fun c hc x hx => bey_iffL.1 ((hg.2.2 c hc).2 x hx)

set_option maxRecDepth 100000 in
set_option maxHeartbeats 1000000 in
theorem under_c {n fu : Int} {sl : Sl} (hA : At h (lli cs s)) (hli : At h (li c sl)) (hl : cs.length ≤ 1048576) (hc : ∀ c ∈ cs, c.length ≤ 1048576) (hcl : c.length ≤ 1048576) (hn : (checkP n cs).2 = 0 → n ≤ 60) :
    callT Try.prog fn_dpll_Under #[.agg #[.int .i64 n, .slice s.a s.len s.cap], .slice sl.a sl.len sl.cap, .int .i64 fu] (.tup (.cons tAn (.cons (.int .i64) .nil)))
      (fun r h' => ∃ s', r = (((underP n cs c fu).1.1, s', (underP n cs c fu).1.2.2, ()), (underP n cs c fu).2, ()) ∧ New h.size h' (ob (underP n cs c fu).1.2.1 s') ∧ Ext [] h h') h := by
  refine callT_gen fun K hK => S_dpll_Under (a0 := (n, s, ())) (a1 := sl) (a2 := fu) K ?_
  unfold F_dpll_Under
  have hG : ∀ C ∈ [lli cs s, li c sl], At h C := by simp [hA, hli]
  have st := Hs.start h [lli cs s, li c sl] hG
  refine st.nw fun b0 h1 st => ?_
  refine st.nw fun b1 h2 st => ?_
  simp only [List.cons_append, List.nil_append] at st
  refine ldF (st.blk 0 rfl) ?_
  refine call_of (wrong_c (st.fz 0 rfl)) ?_
  rintro _ h3 ⟨rfl, x3⟩
  have st := st.ext x3
  simp only [addr_add, Nat.zero_add]
  by_cases hw : wrongP n cs fu = 0
  rotate_left
  · refine brT (bne_iff_ne.2 hw) ?_
    have eu : underP n cs c fu = ((false, [], 0), wrongP n cs fu) := by unfold underP; rw [if_pos hw]
    rw [eu] at hK
    refine st.st1 1 0 rfl (by simp) fun h4 st => ?_
    refine st.st1 1 1 rfl (by simp) fun h5 st => ?_
    refine st.st1 1 2 rfl (by simp) fun h6 st => ?_
    simp only [List.set_cons_zero, List.set_cons_succ] at st
    exact ldAn (s := ⟨none, 0, 0⟩) (st.blk 1 rfl) (hK _ _ ⟨⟨none, 0, 0⟩, rfl, osl_nil _ _, st.frame (by simp)⟩)
  refine brF (by rw [hw]; rfl) ?_
  have hch : (checkP n cs).2 = 0 := by
    unfold wrongP at hw
    by_cases q : (checkP n cs).2 = 0
    · exact q
    · rw [if_pos q] at hw; exact hw
  have hfu : 0 ≤ fu ∧ fu ≤ 16777216 := by
    unfold wrongP at hw
    rw [if_neg (by simp [hch])] at hw
    by_cases q : fu < 0 ∨ fu > 16777216
    · rw [if_pos q] at hw; cases hw
    · simp only [not_or] at q; omega
  refine ldF (st.blk 0 rfl) ?_
  refine Hs.begin st (by simp) (by simp) hl hc hcl (fun he h4 st => ?_) (fun v ev hv hAs sb s' sv h4 st => ?_)
  · refine brT (bne_iff_ne.2 he) ?_
    have eu : underP n cs c fu = ((false, [], 0), (modelF n c).2) := by unfold underP; rw [if_neg (by simp [hw]), if_pos he]
    rw [eu] at hK
    refine st.st1 1 0 rfl (by simp) fun h4 st => ?_
    refine st.st1 1 1 rfl (by simp) fun h5 st => ?_
    refine st.st1 1 2 rfl (by simp) fun h6 st => ?_
    simp only [List.set_cons_zero, List.set_cons_succ] at st
    exact ldAn (s := ⟨none, 0, 0⟩) (st.blk 1 rfl) (hK _ _ ⟨⟨none, 0, 0⟩, rfl, osl_nil _ _, st.frame (by simp)⟩)
  subst ev
  obtain ⟨f, rfl⟩ := Int.eq_ofNat_of_zero_le hfu.1
  refine brF rfl ?_
  have hgood := check_good.1 hch
  have hv60 := hn hch
  have hi := inv_good hgood
  have em : (modelF (v : Int) c).2 = 0 := modelF_asg.2 ⟨by omega, by omega, by rw [Int.toNat_natCast]; exact hAs⟩
  have eu : underP v cs c f = (if ((Dp.runT f (trace v cs (v + 1) c)).2 : Int) > f then ((false, [], 0), 190) else (((Dp.runT f (trace v cs (v + 1) c)).1.isSome, (Dp.runT f (trace v cs (v + 1) c)).1.getD [], (((Dp.runT f (trace v cs (v + 1) c)).2 : Nat) : Int)), 0)) := by
    unfold underP; rw [if_neg (by simp [hw]), if_neg (by simp [em])]; simp only [Int.toNat_natCast]
  simp only [List.cons_append, List.nil_append] at st
  refine st.nw fun b8 h5 st => ?_
  simp only [List.cons_append, List.nil_append] at st
  have st := ((st.hd 3 rfl).hd 4 rfl).hd 5 rfl
  simp only [List.eraseIdx_cons_succ, List.eraseIdx_cons_zero] at st
  have it := uA_of st
  have hfl := freeN_le (v := v) (L := c)
  have hng := trace_guesses hi hv (v + 1) c
  have h61 : 2 ^ (freeN v c + 1) ≤ 2 ^ 61 := Nat.pow_le_pow_right (by decide) (by omega)
  have e61 : (2 : Nat) ^ 61 = 2305843009213693952 := by decide
  generalize hT : trace v cs (v + 1) c = T at *
  let M : MP := { h0 := h, F := [], A := uA h b8, D := uD h b8 (mods T), G := [], sb := sb, v := v, fu := f, s := s', sv := sv }
  have H : MH M cs (mods T) (.func (.func fn_dpll_Under_1) #[] #[.pointer (some ⟨b8, 0, none⟩)]) := ⟨under1_client, uD_stab, rfl, hi, hl, hc, hv, by show f ≤ _; omega⟩
  have hR : RC M cs [cl b0 ty_formula_Formula [.int .i64 v, .slice s.a s.len s.cap], cl b1 ty_dpll_Answer [.bool false, .slice none 0 0, .int .i64 0], llo cs s'] := by
    rintro h' _ ⟨S, S1, S2, _, _, _, S3, S4, _, _, _, S5, S6, _, _, hp, _⟩
    exact llo_at ⟨S5, hp⟩
  have hcall := models_rec H (v + 1) c 0 [] [b8] _ h5 hR hAs (by show freeN v c < _; omega) it (by show 0 ≤ f; omega) (by rw [hT]; omega) (by rw [hT]; intro i m hm; simpa using hm)
  rw [hT] at hcall
  refine call_of hcall ?_
  clear hcall st it
  intro r9 h9 mo
  -- what is read of it
  have fin : ∀ (x : Bool) (sm : Sl) (gg : Nat) (ml : List Bool) (h' : Heap), Hs [([], h)] [lli cs s, li c sl] [cl b8 ty_dpll_Answer [.bool x, .slice sm.a sm.len sm.cap, .int .i64 0], ob ml sm, srch sb v s' sv gg f, vrow v c sv, cl b0 ty_formula_Formula [.int .i64 v, .slice s.a s.len s.cap], cl b1 ty_dpll_Answer [.bool false, .slice none 0 0, .int .i64 0], llo cs s'] h' →
      Dp.runT f T = (if x then some ml else none, gg) → (x = false → ml = []) → gg ≤ f + 1 → (nn (some (⟨sb, 0, none⟩ : Addr)) fun p10 => ldT (.int .i64) (p10.add 3) fun x11 =>
        brB (decide (x11 > (f : Int)))
        (st1 (⟨b1, 0, none⟩ : Addr) (.bool false) <| st1 (⟨b1, 1, none⟩ : Addr) (.slice none 0 0) <| st1 (⟨b1, 2, none⟩ : Addr) (.int .i64 (0 : Int)) <|
          ldA (.cons .bool (.cons .sl (.cons (.int .i64) .nil))) (⟨b1, 0, none⟩ : Addr) fun x12 => K ((x12.1, ⟨x12.2.1.a, x12.2.1.len, x12.2.1.cap⟩, x12.2.2.1, ()), (190 : Int), ()))
        (nn (some (⟨sb, 0, none⟩ : Addr)) fun p13 => ldT (.int .i64) (p13.add 3) fun x14 => st1 (⟨b8, 2, none⟩ : Addr) (.int .i64 x14) <|
          ldA (.cons .bool (.cons .sl (.cons (.int .i64) .nil))) (⟨b8, 0, none⟩ : Addr) fun x15 =>
          st1 (⟨b1, 0, none⟩ : Addr) (.bool x15.1) <| st1 (⟨b1, 1, none⟩ : Addr) (.slice x15.2.1.a x15.2.1.len x15.2.1.cap) <| st1 (⟨b1, 2, none⟩ : Addr) (.int .i64 x15.2.2.1) <|
          ldA (.cons .bool (.cons .sl (.cons (.int .i64) .nil))) (⟨b1, 0, none⟩ : Addr) fun x16 => K ((x16.1, ⟨x16.2.1.a, x16.2.1.len, x16.2.1.cap⟩, x16.2.2.1, ()), (0 : Int), ()))) h' := by
    intro x sm gg ml h' st hr hx hgg
    rw [hr] at eu
    rw [nn_some]
    simp only [addr_add, Nat.zero_add]
    rw [st.ldi 2 3 rfl rfl]
    by_cases hgt : gg > f
    · rw [if_pos (show ((gg : Nat) : Int) > f by omega)] at eu
      rw [eu] at hK
      refine brT (decide_eq_true (show ((gg : Nat) : Int) > f by omega)) ?_
      refine st.st1 5 0 rfl (by simp) fun h4 st => ?_
      refine st.st1 5 1 rfl (by simp) fun h5 st => ?_
      refine st.st1 5 2 rfl (by simp) fun h6 st => ?_
      simp only [List.set_cons_zero, List.set_cons_succ] at st
      exact ldAn (s := ⟨none, 0, 0⟩) (st.blk 5 rfl) (hK _ _ ⟨⟨none, 0, 0⟩, rfl, osl_nil _ _, st.frame (by simp)⟩)
    · rw [if_neg (show ¬ ((gg : Nat) : Int) > f by omega)] at eu
      rw [eu] at hK
      refine brF (decide_eq_false (show ¬ ((gg : Nat) : Int) > f by omega)) ?_
      rw [nn_some]
      simp only [addr_add, Nat.zero_add]
      rw [st.ldi 2 3 rfl rfl]
      refine st.st1 0 2 rfl (by simp) fun h4 st => ?_
      simp only [List.set_cons_zero, List.set_cons_succ] at st
      refine ldAn (st.blk 0 rfl) ?_
      refine st.st1 5 0 rfl (by simp) fun h4 st => ?_
      refine st.st1 5 1 rfl (by simp) fun h5 st => ?_
      refine st.st1 5 2 rfl (by simp) fun h6 st => ?_
      simp only [List.set_cons_zero, List.set_cons_succ] at st
      refine ldAn (st.blk 5 rfl) (hK _ _ ⟨sm, ?_, ?_, st.frame (by simp)⟩)
      · cases x <;> rfl
      · have := st.res (h0 := h) (by simp) 1 rfl
        cases x with
        | true => exact this
        | false => rw [hx rfl] at this; exact this
  rcases mo with ⟨_, xs, B', hxs, hgt, it⟩ | ⟨_, T1, T2, xs, B', e, hgt, hxs, it⟩ | ⟨_, T1, m, T2, xs, B1, k1, B', e, hgt, hxs, hAm, it⟩
  · obtain ⟨ex, eB, xx, hb8, kb⟩ := it.1
    simp only [List.nil_append] at ex
    subst ex; subst eB
    have hm0 : mods T = [] := List.eq_nil_of_length_eq_zero hxs.symm
    have st := Hs.ofIt (X := cl b8 ty_dpll_Answer [.bool false, .slice none 0 0, .int .i64 0]) it xx ⟨rfl, kb⟩ (fun b hb => by simp at hb; subst hb; exact ⟨by simp, hb8⟩) hG
    have st := st.nil ty_bool Ty.bool.enc none
    have st := (st.hd 6 rfl).hd 1 rfl
    refine fin false ⟨none, 0, 0⟩ (0 + ng T) [] _ st ?_ (fun _ => rfl) (by show 0 + ng T ≤ f + 1; have : 0 + ng T ≤ f := hgt; omega)
    have := run_nomod T f [] hm0 (by have : 0 + ng T ≤ f := hgt; omega)
    rw [List.append_nil] at this
    rw [this]
    simp [Dp.runT]
  · obtain ⟨ex, eB, xx, hb8, kb⟩ := it.1
    simp only [List.nil_append] at ex
    subst ex; subst eB
    have hgt : 0 + ng T1 = f := hgt
    have hm0 : mods T1 = [] := List.eq_nil_of_length_eq_zero hxs.symm
    have st := Hs.ofIt (X := cl b8 ty_dpll_Answer [.bool false, .slice none 0 0, .int .i64 0]) it xx ⟨rfl, kb⟩ (fun b hb => by simp at hb; subst hb; exact ⟨by simp, hb8⟩) hG
    have st := st.nil ty_bool Ty.bool.enc none
    have st := (st.hd 6 rfl).hd 1 rfl
    refine fin false ⟨none, 0, 0⟩ (f + 1) [] _ st ?_ (fun _ => rfl) (by omega)
    have := run_nomod T1 f (.guess :: T2) hm0 (by omega)
    rw [e, this, show f - ng T1 = 0 by omega]
    simp [Dp.runT]; omega
  · have ex : [] ++ xs = [] := hAm.1
    simp only [List.nil_append] at ex
    subst ex
    have hgt : 0 + ng T1 ≤ f := hgt
    have hm0 : mods T1 = [] := List.eq_nil_of_length_eq_zero hxs.symm
    obtain ⟨sm, N, eB, hn8, xx, hB, hob, kb⟩ := it.1
    have eMS : (mods T).getD 0 [] = m := by rw [e, mods_append, hm0]; rfl
    rw [eMS] at hob
    have st := Hs.ofIt (X := starA [ob m sm, cl b8 ty_dpll_Answer [.bool true, .slice sm.a sm.len sm.cap, .int .i64 0]]) (SX := N ++ ([b8] ++ [])) it xx ⟨N, [b8] ++ [], rfl, fun b hb hin => by simp at hin; subst hin; exact hn8 hb, hob, [b8], [], rfl, by simp, ⟨rfl, kb⟩, rfl⟩
      (fun b hb => by rw [List.append_nil] at hb; rw [← eB] at hb; exact ⟨hb, (hB b hb).1⟩) hG
    have st := st.conv (SepTo.unpack [] _ _)
    simp only [List.cons_append, List.nil_append] at st
    have st := st.hd 1 rfl
    refine fin true sm (0 + ng T1) m _ st ?_ (fun q => by cases q) (by omega)
    have := run_nomod T1 f (.model m :: T2) hm0 (by omega)
    rw [e, this]
    have e0 : Dp.runT (f - ng T1) (.model m :: T2) = (some m, 0) := by cases f - ng T1 <;> rfl
    rw [e0]; simp

end Go.Proofs.S

set_option linter.unusedVariables false
set_option linter.unusedSimpArgs false
namespace Go.Proofs.S
open Go Go.Sx Go.Proofs Go.Cl Go.Dp

variable {h : Heap} {c d L : List Int} {s s2 sv : Sl} {fr : Fr} {G As : List Asn} {b sb v : Nat} {g : Int} {cs : List (List Int)}

theorem solve_c {n fu : Int} (hA : At h (lli cs s)) (hl : cs.length ≤ 1048576) (hc : ∀ c ∈ cs, c.length ≤ 1048576) (hn : (checkP n cs).2 = 0 → n ≤ 60) :
    callT Try.prog fn_dpll_Solve #[.agg #[.int .i64 n, .slice s.a s.len s.cap], .int .i64 fu] (.tup (.cons tAn (.cons (.int .i64) .nil)))
      (fun r h' => ∃ s', r = (((underP n cs [] fu).1.1, s', (underP n cs [] fu).1.2.2, ()), (underP n cs [] fu).2, ()) ∧ New h.size h' (ob (underP n cs [] fu).1.2.1 s') ∧ Ext [] h h') h := by
  refine callT_gen fun K hK => S_dpll_Solve (a0 := (n, s, ())) (a1 := fu) K ?_
  unfold F_dpll_Solve
  have st := Hs.start h [lli cs s] (by simp [hA])
  refine st.nw fun b0 h1 st => ?_
  refine st.nw fun b1 h2 st => ?_
  simp only [List.cons_append, List.nil_append] at st
  refine ldF (st.blk 0 rfl) ?_
  refine call_of (under_c (sl := ⟨none, 0, 0⟩) (c := []) (st.fz 0 rfl) nil_li hl hc (by simp) hn) ?_
  rintro _ h3 ⟨s', rfl, hnew, x3⟩
  have st := st.new x3 hnew
  simp only [List.cons_append, List.nil_append, addr_add, Nat.zero_add] at st ⊢
  refine st.st1 1 0 rfl (by simp) fun h4 st => ?_
  refine st.st1 1 1 rfl (by simp) fun h5 st => ?_
  refine st.st1 1 2 rfl (by simp) fun h6 st => ?_
  simp only [List.set_cons_zero, List.set_cons_succ] at st
  exact ldAn (st.blk 1 rfl) (hK _ _ ⟨s', rfl, st.res (by simp) 2 rfl, st.frame (by simp)⟩)

def followsP (n : Int) (cs : List (List Int)) (c : List Int) : List Int × Int × Int :=
  if (checkP n cs).2 ≠ 0 then ([], -1, (checkP n cs).2) else if (modelF n c).2 ≠ 0 then ([], -1, (modelF n c).2) else ((followP n.toNat cs c).1, (followP n.toNat cs c).2, 0)

theorem follows_c {n : Int} {sl : Sl} (hA : At h (lli cs s)) (hli : At h (li c sl)) (hl : cs.length ≤ 1048576) (hc : ∀ c ∈ cs, c.length ≤ 1048576) (hcl : c.length ≤ 1048576) :
    callT Try.prog fn_dpll_Follows #[.agg #[.int .i64 n, .slice s.a s.len s.cap], .slice sl.a sl.len sl.cap] (.tup (.cons .sl (.cons (.int .i64) (.cons (.int .i64) .nil))))
      (fun r h' => ∃ s', r = (s', (followsP n cs c).2.1, (followsP n cs c).2.2, ()) ∧ New h.size h' (lo (followsP n cs c).1 s') ∧ Ext [] h h') h := by
  refine callT_gen fun K hK => S_dpll_Follows (a0 := (n, s, ())) (a1 := sl) K ?_
  unfold F_dpll_Follows
  have st := Hs.start h [lli cs s, li c sl] (by simp [hA, hli])
  refine st.nw fun b0 h1 st => ?_
  simp only [List.nil_append] at st
  refine ldF (st.blk 0 rfl) ?_
  refine call_of (check_c (st.fz 0 rfl)) ?_
  rintro _ h2 ⟨rfl, x2⟩
  have st := st.ext x2
  simp only
  by_cases he : (checkP n cs).2 = 0
  rotate_left
  · have eu : followsP n cs c = ([], -1, (checkP n cs).2) := by unfold followsP; rw [if_pos he]
    rw [eu] at hK
    exact brT (bne_iff_ne.2 he) (hK _ _ ⟨⟨none, 0, 0⟩, rfl, osl_nil _ _, st.frame (by simp)⟩)
  refine brF (by rw [he]; rfl) ?_
  refine ldF (st.blk 0 rfl) ?_
  refine Hs.begin st (by simp) (by simp) hl hc hcl (fun hm h4 st => ?_) (fun v ev hv hAs sb s' sv h4 st => ?_)
  · have eu : followsP n cs c = ([], -1, (modelF n c).2) := by unfold followsP; rw [if_neg (by simp [he]), if_pos hm]
    rw [eu] at hK
    exact brT (bne_iff_ne.2 hm) (hK _ _ ⟨⟨none, 0, 0⟩, rfl, osl_nil _ _, st.frame (by simp)⟩)
  subst ev
  have em : (modelF (v : Int) c).2 = 0 := modelF_asg.2 ⟨by omega, by omega, by rw [Int.toNat_natCast]; exact hAs⟩
  have eu : followsP v cs c = ((followP v cs c).1, (followP v cs c).2, 0) := by unfold followsP; rw [if_neg (by simp [he]), if_neg (by simp [em])]; simp only [Int.toNat_natCast]
  rw [eu] at hK
  refine brF rfl ?_
  have hi := inv_good (check_good.1 he)
  simp only [List.cons_append, List.nil_append] at st
  have st := (st.hd 2 rfl).hd 3 rfl
  simp only [List.eraseIdx_cons_succ, List.eraseIdx_cons_zero] at st
  have st := st.conv (SepTo.packE [_, _] [cl b0 ty_formula_Formula [.int .i64 v, .slice s.a s.len s.cap], llo cs s'])
  refine Hs.follow st ?_ hAs hi hl hc hv fun so h5 st => ?_
  · rintro h' _ ⟨S, S1, S2, _, _, _, S3, S4, _, _, hp, _⟩
    exact llo_at ⟨S3, hp⟩
  exact hK _ _ ⟨so, rfl, st.res (by simp) 3 rfl, st.frame (by simp)⟩

end Go.Proofs.S

set_option linter.unusedVariables false
namespace Go.Sx
open Go

section
variable {P : Program} {τ : Ty} {t : TypeId} {h h' : Heap} {xs ys : List τ.T} {s s2 : Sl} {fr : Fr} {G As : List Asn} {by_ : Nat} {z : Value}

end
end Go.Sx
