/-
  Clone, All: what is handed over.
-/
import Derived.Test.YtkfdfbgceockpaaOrdR
set_option linter.unusedVariables false
namespace Go.Proofs.Ord
open Go Go.Sx Go.Proofs

theorem clone_c {h : Heap} {b : Nat} {xs : List Int} {s : Sl} (hs : ISl0 h b xs s) (hlen : xs.length ≤ 2000000) :
    callT Try.prog fn_slices_Clone_int_int #[.slice s.a s.len s.cap] .sl (fun s' h' => ∃ b', ISl0 h' b' xs s' ∧ Ext [] h h' ∧ h.size ≤ b') h := by
  refine callT_gen fun K hK => ?_
  refine S_slices_Clone_int_int (a0 := s) K ?_
  unfold F_slices_Clone_int_int
  cases ha : s.a with
  | none =>
    rcases hs with ⟨rest, rfl, hb⟩ | ⟨rfl, h1, h2⟩
    · cases ha
    · exact hK _ _ ⟨h.size, .inr ⟨rfl, rfl, rfl⟩, Ext.refl _ _, Nat.le_refl _⟩
  | some a =>
    simp only [Option.isNone_some, brB_false, nw_eq]
    have x1 := (Ext.refl [] h).push (.cells #[] 3)
    have kb := Blk.new h 3 #[]
    have s1 : (h.push (.cells #[] 3)).size = h.size + 1 := by simp
    have fc : FirstCells (h.push (.cells #[] 3)) (some a) (xs.length * 1) (ints xs) ∧ s.len = xs.length := by
      rcases hs with ⟨rest, rfl, hb⟩ | ⟨rfl, h1, h2⟩
      · cases ha
        exact ⟨⟨by simp, CellsAt_blk _ (hb.push _) 0 (by intro j hj; simp at hj ⊢; rw [List.getElem?_append_left (by simpa using hj)]; simp)⟩, rfl⟩
      · exact ⟨⟨rfl, trivial⟩, h1⟩
    obtain ⟨fc, el⟩ := fc
    generalize h.push (.cells #[] 3) = h1 at *
    refine ⟨ints xs, by rw [el]; exact fc, fun hle => ?_, fun hgt => ?_⟩
    · have : xs = [] := by
        cases xs with
        | nil => rfl
        | cons x xs => simp [el] at hle
      subst this
      simp only [el, List.length_nil]
      exact hK _ _ ⟨h.size, .inr ⟨rfl, rfl, rfl⟩, x1, Nat.le_refl _⟩
    · simp only [el] at hgt ⊢
      refine ⟨by omega, by omega, [], ⟨rfl, trivial⟩, fun nc h1' h2' => ?_⟩
      have hn := Blk.new h1 3 (([] : List Value).toArray ++ (ints xs).toArray ++ Builtin.zeroCells #[.int .i64 0] (nc - (0 + xs.length)))
      refine hK _ _ ⟨h1.size, .inl ⟨(Builtin.zeroCells #[.int .i64 0] (nc - (0 + xs.length))).toList, ?_, ?_⟩, x1.push _, by omega⟩
      · simp [Builtin.zeroCells]; omega
      · simpa using hn

theorem all_c (o : Nat) (h : Heap) : callT Try.prog fn_order_Order_All #[.pointer (pt o)] .val
    (fun r h' => r = .func (.func 39) #[] #[.pointer (pt h.size)] ∧ h' = h.push (.cells #[.pointer (pt o)] 24)) h := by
  refine callT_gen fun K hK => ?_
  apply S_order_Order_All
  simp only [F_order_Order_All, nw_eq]
  exact hK _ _ ⟨rfl, rfl⟩

theorem Rep.extC {h h' : Heap} {S T : List Nat} {o n : Nat} {act : List Int} {step : Int} {L : List Int} (r : Rep h S o n act step L) (he : ExtC T h h') (hd : ∀ b ∈ S, b ∉ T) : Rep h' S o n act step L := by
  obtain ⟨ab, hb, pb, H, Pl, rfl, r, rest⟩ := r
  refine ⟨ab, hb, pb, H, Pl, rfl, ?_, rest.1, rest.2.1, rest.2.2.1, rest.2.2.2.1, rest.2.2.2.2.1, Nat.lt_of_lt_of_le rest.2.2.2.2.2 he.1⟩
  have q : ∀ {t c b}, b ∈ [o, ab, hb, pb] → Blk h b t c → Blk h' b t c := fun hm hk => hk.extC he (hd _ hm)
  rcases r with ⟨ra, rh, rp, r⟩ | ⟨e, ra, rp, ha, r⟩
  · exact .inl ⟨ra, rh, rp, ⟨q (by simp) r.O, q (by simp) r.A, q (by simp) r.P, r.oa, r.op, r.ap⟩, q (by simp) r.Hh, r.oh, r.ah, r.ph⟩
  · exact .inr ⟨e, ra, rp, ha, q (by simp) r.O, q (by simp) r.A, q (by simp) r.P, r.oa, r.op, r.ap⟩

theorem all_iter {h : Heap} {S : List Nat} {o n c : Nat} {act : List Int} {step : Int} {L : List Int} (r : Rep h S o n act step L) (kc : Blk h c 24 [.pointer (pt o)]) :
    IterSpec Try.prog τi (.func (.func 39) #[] #[.pointer (pt c)]) h (fun pre x => ∃ r, pre.map (·.1) ++ x.1 :: r = L) (fun pre => pre.map (·.1) = L) [] [] := by
  intro A D B0 hB0 sA sD yl hy hA
  have key : callF Try.prog (.func (.func 39) #[] #[.pointer (pt c)]) #[yl] (.tup .nil) (fun _ h2 => ∃ B', (∃ pre, List.map (·.1) pre = L ∧ A pre B' h2) ∨ D B' h2) h := by
    refine callF_func (S_order_Order_All_1 (a0 := yl) (c0 := ⟨c, 0, none⟩) _ ?_)
    generalize hKg : (fun (_ : Unit) (h2 : Heap) => ∃ B', (∃ pre, List.map (·.1) pre = L ∧ A pre B' h2) ∨ D B' h2) = K
    have hKg : ∀ u h2, (∃ B', (∃ pre, List.map (·.1) pre = L ∧ A pre B' h2) ∨ D B' h2) → K u h2 := fun u h2 hh => by rw [← hKg]; exact hh
    have rep := r
    obtain ⟨ab, hb, pb, H, Pl, rfl, r, cs, hp, hl, hn, rfl, hbl⟩ := r
    obtain ⟨ha, ch, ra, rp, rc⟩ := r.common
    have hpl := cs.len
    have hlen := cs.length_le
    have isH : ISl0 h hb H ⟨ha, H.length, ch⟩ := by
      rcases r with ⟨ra', rh', rp', r⟩ | ⟨e0, ra', rp', ha', r⟩
      · have eO := rc.O.inj r.O
        simp at eO
        obtain ⟨_, ⟨e3, e4⟩, _⟩ := eO
        subst e3; subst e4
        exact .inl ⟨rh', rfl, r.Hh⟩
      · subst e0
        have eO := rc.O.inj r.O
        simp at eO
        exact .inr ⟨rfl, rfl, eO.2.1.2⟩
    unfold F_order_Order_All_1
    simp only [ld_ptr (i := 0) kc rfl]
    refine call_of (is_c rc) ?_
    rintro bb h' ⟨rfl, rfl⟩
    simp only [Bool.not_true, brB_false, ld_ptr (i := 0) kc rfl, nn_some, addr_add, rc.l0, rc.l1, rc.l2, rc.l3]
    have olt := rc.O.lt
    have keep : ∀ h2, Ext [] h' h2 → RawC h2 o ab pb act Pl step ha H.length ch ra rp ∧ Blk h2 c 24 [.pointer (pt o)] ∧ ISl0 h2 hb H ⟨ha, H.length, ch⟩ := by
      intro h2 x
      refine ⟨rc.ext x (by simp) (by simp) (by simp), kc.ext x (by simp), ?_⟩
      rcases isH with ⟨rest, e, hk⟩ | hh
      · exact .inl ⟨rest, e, hk.ext x (by simp)⟩
      · exact .inr hh
    refine call_of (clone_c (b := ab) (xs := act) (s := ⟨pt ab, act.length, act.length + ra.length⟩) (.inl ⟨ra, rfl, rc.A⟩) (by omega)) ?_
    rintro s1 h1 ⟨b1, is1, x1, l1⟩
    obtain ⟨rc1, kc1, isH1⟩ := keep h1 x1
    simp only [Nat.zero_add, ck_ok (i := 3) rc1.O rfl, ck_ok (i := 2) rc1.O rfl, ck_ok (i := 1) rc1.O rfl, ck_ok (i := 0) kc1 rfl]
    refine call_of (clone_c isH1 (by omega)) ?_
    rintro s2 h2 ⟨b2, is2, x2, l2⟩
    have x2' := x1.nil_trans x2
    obtain ⟨rc2, kc2, isH2⟩ := keep h2 x2'
    simp only [Nat.zero_add, ck_ok (i := 3) rc2.O rfl, ck_ok (i := 2) rc2.O rfl, ck_ok (i := 0) kc2 rfl]
    refine call_of (clone_c (b := pb) (xs := Pl) (s := ⟨pt pb, Pl.length, Pl.length + rp.length⟩) (.inl ⟨rp, rfl, rc2.P⟩) (by omega)) ?_
    rintro s3 h3 ⟨b3, is3, x3, l3⟩
    have x3' := x2'.nil_trans x3
    obtain ⟨rc3, kc3, isH3⟩ := keep h3 x3'
    simp only [Nat.zero_add, ck_ok (i := 3) rc3.O rfl, ck_ok (i := 0) kc3 rfl, nw_eq]
    have z1 := x1.1
    have z2 := x2.1
    have z3 := x3.1
    have is1' : ISl h1 b1 act s1 := by
      rcases is1 with k | ⟨e, _⟩
      · exact k
      · rw [e] at hl; simp at hl
    have is3' : ISl h3 b3 Pl s3 := by
      rcases is3 with k | ⟨e, _⟩
      · exact k
      · rw [e] at hpl; simp at hpl
    obtain ⟨ra1, rfl, k1⟩ := is1'
    obtain ⟨rp1, rfl, k3⟩ := is3'
    have lt1 := k1.lt
    have lt3 := k3.lt
    have k1 := k1.ext (x2.nil_trans x3) (by simp)
    have xo := (Ext.refl [] h3).push (.cells #[.slice (pt b1) act.length (act.length + ra1.length), .slice s2.a s2.len s2.cap, .slice (pt b3) Pl.length (Pl.length + rp1.length), .int .i64 step, .bool true] 56)
    have ko := Blk.new h3 56 #[.slice (pt b1) act.length (act.length + ra1.length), .slice s2.a s2.len s2.cap, .slice (pt b3) Pl.length (Pl.length + rp1.length), .int .i64 step, .bool true]
    have x4' := x3'.nil_trans xo
    have s4 : (h3.push (.cells #[.slice (pt b1) act.length (act.length + ra1.length), .slice s2.a s2.len s2.cap, .slice (pt b3) Pl.length (Pl.length + rp1.length), .int .i64 step, .bool true] 56)).size = h3.size + 1 := by simp
    have rep4 : ∃ S2, Rep (h3.push (.cells #[.slice (pt b1) act.length (act.length + ra1.length), .slice s2.a s2.len s2.cap, .slice (pt b3) Pl.length (Pl.length + rp1.length), .int .i64 step, .bool true] 56)) S2 h3.size n act step (srt act H) ∧ ∀ b ∈ S2, h'.size ≤ b := by
      rcases is2 with ⟨rh2, e2, k2⟩ | ⟨e2, e3, e4⟩
      · subst e2
        have lt2 := k2.lt
        have k2 := k2.ext x3 (by simp)
        refine ⟨_, ⟨b1, b2, b3, H, Pl, rfl, .inl ⟨ra1, rh2, rp1, ⟨ko, k1.ext xo (by simp), k3.ext xo (by simp), ?_, ?_, ?_⟩, k2.ext xo (by simp), ?_, ?_, ?_⟩, cs, hp, hl, hn, rfl, ?_⟩, ?_⟩
        all_goals first | omega | (intro b hb; simp at hb; omega)
      · subst e2
        refine ⟨_, ⟨b1, h3.size, b3, [], Pl, rfl, .inr ⟨rfl, ra1, rp1, s2.a, ⟨?_, k1.ext xo (by simp), k3.ext xo (by simp), ?_, ?_, ?_⟩⟩, cs, hp, hl, hn, rfl, ?_⟩, ?_⟩
        · simp only [e3, e4] at ko ⊢
          exact ko
        all_goals first | omega | (intro b hb; simp at hb; omega)
    generalize h3.push (.cells #[.slice (pt b1) act.length (act.length + ra1.length), .slice s2.a s2.len s2.cap, .slice (pt b3) Pl.length (Pl.length + rp1.length), .int .i64 step, .bool true] 56) = h4 at *
    obtain ⟨S2, rep4, hS2⟩ := rep4
    have hA4 : A [] B0 h4 := sA [] B0 h' h4 [] hA x4' (by simp)
    have hB4 : ∀ b ∈ B0, b < h'.size := fun b hb => (hB0 b hb).1
    refine call_of (pop_c rep4) ?_
    rintro x h5 ⟨rfl, rep5, x5⟩
    have hA5 : A [] B0 h5 := sA [] B0 h4 h5 S2 hA4 x5 (fun t ht => ⟨fun hb => by have := hS2 t ht; have := hB4 t hb; omega, .inl (hS2 t ht)⟩)
    refine lfp_invh (I := fun m s hh => ∃ pre L' B S', A pre B hh ∧ Rep hh S' h3.size n act step L'.tail ∧ s = (decide (0 < L'.length), L'.headD 0, ()) ∧ pre.map (·.1) ++ L' = srt act H ∧ (∀ b ∈ S', h'.size ≤ b ∧ b ∉ B) ∧ m = L'.length)
      ⟨_, [], srt act H, B0, S2, hA5, rep5, rfl, by simp, fun b hb => ⟨hS2 b hb, fun hb' => by have := hS2 b hb; have := hB4 b hb'; omega⟩, rfl⟩ ?_
    rintro m s hh X ⟨pre, L', B, S', hA, rp', rfl, hpre, hS', rfl⟩ hX
    cases L' with
    | nil =>
      refine hKg _ _ ⟨B, .inl ⟨pre, by simpa using hpre, hA⟩⟩
    | cons y ys =>
      simp only [List.length_cons, Nat.zero_lt_succ, decide_true, brB_true]
      refine CallV.mono (hy pre (y, ()) B hh ⟨ys, hpre⟩ hA) ?_
      rintro v h6 ⟨B', hF, hE, hv⟩
      have rp6 := rp'.extC hE (fun b hb => (hS' b hb).2)
      have hS6 : ∀ b ∈ S', b ∉ B' := fun b hb hin => by
        rcases hF b hin with k | k
        · exact (hS' b hb).2 k
        · have := rp'.lt b hb; omega
      rcases hv with ⟨rfl, hA6⟩ | ⟨rfl, hD⟩
      · refine ⟨true, rfl, ?_⟩
        simp only [Bool.not_true, brB_false]
        refine call_of (pop_c rp6) ?_
        rintro x h7 ⟨rfl, rep7, x7⟩
        have hA7 := sA _ B' h6 h7 S' hA6 x7 (fun t ht => ⟨hS6 t ht, .inl (hS' t ht).1⟩)
        have hz := hE.1
        refine hX _ _ _ ⟨pre ++ [(y, ())], ys, B', S', hA7, rep7, rfl, ?_, ?_, rfl⟩ (by simp)
        · rw [← hpre]; simp
        · exact fun b hb => ⟨(hS' b hb).1, hS6 b hb⟩
      · refine ⟨false, rfl, ?_⟩
        simp only [Bool.not_false, brB_true]
        exact hKg _ _ ⟨B', .inr hD⟩
  exact CallV.mono key fun v h2 ⟨_, _, r⟩ => r

end Go.Proofs.Ord
