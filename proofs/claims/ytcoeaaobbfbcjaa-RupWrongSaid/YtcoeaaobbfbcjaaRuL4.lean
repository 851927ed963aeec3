/-
  RupMore.
-/
import Derived.Test.YtcoeaaobbfbcjaaRuL1
import Derived.Test.YtcoeaaobbfbcjaaClG
set_option linter.unusedVariables false
set_option linter.unusedSimpArgs false
namespace Go.Proofs.S
open Go Go.Sx Go.Proofs Go.Cl Go.Rp

variable {h : Heap} {c d A us o e : List Int} {cs ds hs l : List (List Int)} {s s2 s3 s4 : Sl} {fr : Fr} {G As : List Asn} {b n : Nat} {t : TypeId}

theorem right_small (h : ∀ x ∈ c, x ≠ 0 ∧ -6 ≤ x ∧ x ≤ 6) (hl : c.length ≤ 4096) : rightC c = true := by
  simp only [rightC, Bool.and_eq_true, decide_eq_true_eq, List.all_eq_true]
  exact ⟨hl, fun x hx => rt_iff.2 (by have := h x hx; omega)⟩

theorem growG_c {n : Int} {K : Sl → HP} (hW : W_grow ty_clauses_Clause 24 (.slice none 0 0) ⟨none, 0, 0⟩ n K h) : callT Try.prog fn_slices_Grow_clauses_Clause_clauses_Clause #[.slice none 0 0, .int .i64 n] .sl K h :=
  S_slices_Grow_clauses_Clause_clauses_Clause (a0 := ⟨none, 0, 0⟩) (a1 := n) K hW
theorem concatG_c {ps ps2 : List Sl} {b : Nat} {t0 : TypeId} (kb : Blk h b t0 [.slice s.a s.len s.cap, .slice s2.a s2.len s2.cap]) (hA : At h (rsl Ty.sl.enc ps s)) (hB : At h (rsl Ty.sl.enc ps2 s2)) (hl : ps.length + ps2.length ≤ 1048576) :
    callT Try.prog fn_slices_Concat_clauses_Clause_clauses_Clause #[.slice (some ⟨b, 0, none⟩) 2 2] .sl (fun s' h' => New h.size h' (osl ty_clauses_Clause Ty.sl.enc (ps ++ ps2) s') ∧ Ext [] h h') h := by
  refine callT_gen fun K hK => S_slices_Concat_clauses_Clause_clauses_Clause (a0 := ⟨some ⟨b, 0, none⟩, 2, 2⟩) K ?_
  have hp : At h (rsl Ty.sl.enc [s, s2] ⟨some ⟨b, 0, none⟩, 2, 2⟩) := ⟨[b], osl_rsl (t := t0) (.inl ⟨b, [], rfl, rfl, kb⟩)⟩
  refine w_concat (P := Try.prog) (τ := .sl) (t := ty_clauses_Clause) (by_ := 24) (z := .slice none 0 0) (fg := fn_slices_Grow_clauses_Clause_clauses_Clause) (xss := [ps, ps2]) hp rfl ?_ (by simp) (by simp; omega) (by decide) leaf_sl (fun n K h hW => growG_c hW) (fun s' h' a b => hK _ _ ⟨by simpa using a, b⟩)
  intro i hi
  match i, hi with
  | 0, _ => exact hA
  | 1, _ => exact hB

theorem lli_two {l l2 : List (List Int)} {ps ps2 : List Sl} (h1 : ps.length = l.length) (h2 : ps2.length = l2.length) (ho : At h (rsl Ty.sl.enc (ps ++ ps2) s)) (r1 : ∀ i (a : i < l.length) (b : i < ps.length), At h (li l[i] ps[i])) (r2 : ∀ i (a : i < l2.length) (b : i < ps2.length), At h (li l2[i] ps2[i])) :
    At h (lli (l ++ l2) s) := by
  refine rsg_at (ps := ps ++ ps2) (by simp; omega) ho fun i a b => ?_
  by_cases hi : i < l.length
  · rw [List.getElem_append_left hi, List.getElem_append_left (by omega)]; exact r1 _ _ _
  · rw [List.getElem_append_right (by omega), List.getElem_append_right (by omega)]
    simp only [h1]
    exact r2 _ _ (by simp at b; omega)

theorem fuel_small {l : List (List Int)} (h1 : l.length ≤ 1000) (h2 : ∀ c ∈ l, c.length ≤ 6) : fuelP l ≤ 1000000 := by
  have := flat_le h1 h2
  unfold fuelP; omega

set_option maxRecDepth 4000 in
theorem rupMore_F {which : Int} (hA : At h (l8 c s)) (hB : At h (l8 e s2)) (hC : At h (ll8 cs s3)) (hD : At h (ll8 ds s4)) (hw : 0 ≤ which ∧ which < 256) (K : Bool → HP) (hK : ∀ x h', (x = true ∧ Ext [] h h') → K x h') : F_salvorlaw08_RupMore s s2 s3 s4 which K h := by
  unfold F_salvorlaw08_RupMore
  have st := Hs.start h [l8 c s, l8 e s2, ll8 cs s3, ll8 ds s4] (by simp [hA, hB, hC, hD])
  refine call_of (awake_c h) ?_
  rintro _ h1 ⟨rfl, x1⟩
  refine brF rfl ?_
  have st := st.ext x1
  refine call_of (Made_c (st.fz 0 rfl)) ?_
  rintro r1 h2 ⟨n2, x2⟩
  have st := (st.new x2 n2).froz 0 rfl
  refine call_of (All_c (m := 10) (st.fz 2 rfl) (by decide)) ?_
  rintro r2 h3 ⟨n3, x3⟩
  obtain ⟨ps, lp, st⟩ := Hs.rowsF (st.new x3 n3) 0 rfl
  have hc := madeR_right c
  have hr := allR_right cs 10
  have hl := allR_len cs 10
  have hcl := madeR_len c
  have hcr : ∀ x ∈ madeR c, x ≠ 0 ∧ -6 ≤ x ∧ x ≤ 6 := fun x hx => madeR_range hx
  have hml : ∀ d ∈ allR cs 10, d.length ≤ 6 ∧ ∀ x ∈ d, x ≠ 0 ∧ -6 ≤ x ∧ x ≤ 6 := fun d hd => by obtain ⟨d', rfl⟩ := allR_mem hd; exact ⟨madeR_len _, fun x hx => madeR_range hx⟩
  generalize madeR c = mc at *
  generalize allR cs 10 = l at *
  have hl' : l.length ≤ 65536 := by omega
  simp only [List.cons_append, List.nil_append, List.eraseIdx_cons_zero] at st
  generalize hGG : (l8 c s :: l8 e s2 :: ll8 cs s3 :: ll8 ds s4 :: rsl i64.enc mc r1 :: rsl Ty.sl.enc ps r2 :: lli l r2 :: rows l ps) = GG at st
  have g0 : ∀ {k : Nat} {A : Asn}, (l8 c s :: l8 e s2 :: ll8 cs s3 :: ll8 ds s4 :: rsl i64.enc mc r1 :: rsl Ty.sl.enc ps r2 :: lli l r2 :: rows l ps)[k]? = some A → GG[k]? = some A := fun k => by rw [← hGG]; exact k
  have g1 : GG[1]? = some (l8 e s2) := g0 rfl
  have g3 : GG[3]? = some (ll8 ds s4) := g0 rfl
  have g4 : GG[4]? = some (li mc r1) := g0 rfl
  have g5 : GG[5]? = some (rsl Ty.sl.enc ps r2) := g0 rfl
  have g6 : GG[6]? = some (lli l r2) := g0 rfl
  have gr : ∀ i (h1 : i < l.length) (h2 : i < ps.length), li l[i] ps[i] ∈ GG := fun i h1 h2 => by
    rw [← hGG]
    have := rows_mem h1 h2
    simp [this]
  clear g0 hGG
  refine call_of (Find_c (st.fz 4 g4) (st.fz 6 g6) (by omega) (by omega) (fuel_small (by omega) fun d hd => (hml d hd).1)) ?_
  rintro _ h5 ⟨s5, rfl, n5, x5⟩
  have st := st.ext x5
  have lr2 : r2.len = l.length := rsg_len (st.fz 6 g6)
  refine call_of (All_c (m := 5) (st.fz 3 g3) (by decide)) ?_
  rintro r4 h6 ⟨n6, x6⟩
  obtain ⟨qs, lq, st⟩ := Hs.rowsF (st.new x6 n6) 0 rfl
  have hr2 := allR_right ds 5
  have hl2 := allR_len ds 5
  have hml2 : ∀ d ∈ allR ds 5, d.length ≤ 6 := fun d hd => by obtain ⟨d', rfl⟩ := allR_mem hd; exact madeR_len _
  generalize allR ds 5 = l4 at *
  simp only [List.nil_append, List.eraseIdx_cons_zero] at st
  generalize hG2 : GG ++ rsl Ty.sl.enc qs r4 :: lli l4 r4 :: rows l4 qs = G2 at st
  have up : ∀ {k : Nat} {A : Asn}, GG[k]? = some A → G2[k]? = some A := fun {k A} hk => by
    rw [← hG2, List.getElem?_append_left (List.getElem?_eq_some_iff.1 hk).1]; exact hk
  have mq : rsl Ty.sl.enc qs r4 ∈ G2 := by rw [← hG2]; simp
  have gr2 : ∀ i (h1 : i < l4.length) (h2 : i < qs.length), li l4[i] qs[i] ∈ G2 := fun i h1 h2 => by
    rw [← hG2]
    have := rows_mem h1 h2
    simp [this]
  have gr1 : ∀ i (h1 : i < l.length) (h2 : i < ps.length), li l[i] ps[i] ∈ G2 := fun i h1 h2 => by rw [← hG2]; exact List.mem_append_left _ (gr i h1 h2)
  refine st.nw fun b5 h7 st => ?_
  refine call_of (concatG_c (s := r4) (s2 := r2) (st.blk 0 rfl) (st.fzm mq) (st.fz 5 (up g5)) (by omega)) ?_
  rintro r6 h8 ⟨n8, x8⟩
  have st := (st.drop 0 rfl).new x8 n8
  have hr6 : ∀ d ∈ l4 ++ l, rightC d = true := fun d hd => (List.mem_append.1 hd).elim (hr2 d) (hr d)
  refine call_of (Find_c (st.fz 4 (up g4)) (lli_two lq lp (st.own 0 rfl).rsl (fun i a b => st.fzm (gr2 i a b)) (fun i a b => st.fzm (gr1 i a b))) (by omega) (by simp; omega) (fuel_small (by simp; omega) fun d hd => (List.mem_append.1 hd).elim (hml2 d) fun k => (hml d k).1)) ?_
  rintro _ h9 ⟨s9, rfl, n9, x9⟩
  have st := (st.ext x9).drop 0 rfl
  have made : ∀ {G : List Asn} {h' : Heap} {K2 : Sl → HP}, Hs [([], h)] G [] h' → G[1]? = some (l8 e s2) → (∀ r h'', Hs [([], h)] G [lo (madeR e) r] h'' → K2 r h'') → callT Try.prog fn_salvorlaw08_Made #[.slice s2.a s2.len s2.cap] .sl K2 h' := by
    intro G h' K2 st g hK2
    refine call_of (Made_c (st.fz 1 g)) ?_
    rintro r h'' ⟨n, x⟩
    exact hK2 r h'' (st.new x n)
  refine made st (up g1) fun r8 h10 st => ?_
  have hel := madeR_len e
  have her : ∀ x ∈ madeR e, x ≠ 0 ∧ -6 ≤ x ∧ x ≤ 6 := fun x hx => madeR_range hx
  generalize madeR e = me at *
  refine st.nw fun b9 h11 st => ?_
  refine call_of (concat2_c (s := r1) (s2 := r8) (st.blk 1 rfl) (st.fz 4 (up g4)) (st.own 0 rfl).rsl (by omega)) ?_
  rintro r10 h12 ⟨n12, x12⟩
  have st := st.new x12 n12
  have rwide : rightC (mc ++ me) = true := right_small (fun x hx => (List.mem_append.1 hx).elim (hcr x) (her x)) (by simp; omega)
  refine call_of (Find_c (st.own 2 rfl).rsl (st.fz 6 (up g6)) (by simp; omega) (by omega) (fuel_small (by omega) fun d hd => (hml d hd).1)) ?_
  rintro _ h13 ⟨s13, rfl, n13, x13⟩
  have st := (((st.ext x13).drop 2 rfl).drop 1 rfl).drop 0 rfl
  simp only
  rw [find_err hc hr hl', find_err hc hr6 (by simp; omega), find_err rwide hr hl']
  have m1 : (findP mc l).2.1 = true → (findP mc (l4 ++ l)).2.1 = true := fun k => more_find hc hc hr6 hl' (by simp; omega) (fun x hx => hx) (fun d hd => List.mem_append_right _ hd) k
  have m2 : (findP mc l).2.1 = true → (findP (mc ++ me) l).2.1 = true := fun k => more_find hc rwide hr hl' hl' (fun x hx => List.mem_append_left _ hx) (fun d hd => hd) k
  refine jn_mid (M := fun t h' => t = false ∧ h' = h13) ?_ ?_
  rotate_left
  · intro J hJ
    refine brF rfl (jn_in fun J2 hJ2 => ?_)
    cases hf : (findP mc l).2.1
    · exact brF rfl (hJ2 _ _ (hJ _ _ ⟨rfl, rfl⟩))
    · refine brT rfl (jn_in fun J3 hJ3 => brF (by rw [m1 hf]; rfl) (hJ3 _ _ (hJ2 _ _ (hJ _ _ ⟨?_, rfl⟩))))
      rw [m2 hf]; rfl
  rintro _ h14 ⟨rfl, e'⟩; subst e'
  refine brF rfl ?_
  rw [lr2]
  by_cases h0 : l.length = 0
  · exact brT (by simp [h0]) (hK _ _ ⟨rfl, st.frame (by simp)⟩)
  refine brF (by simpa using h0) ?_
  refine ⟨by omega, ?_⟩
  obtain ⟨q, hq, hql⟩ : ∃ q : Nat, Int.tmod (IntKind.wrap .i64 which) (l.length : Int) = q ∧ q < l.length := by
    rw [wrap_i64 (by omega) (by omega), Int.tmod_eq_emod_of_nonneg (by omega)]
    have h1 := Int.emod_nonneg which (show (l.length : Int) ≠ 0 by omega)
    have h2 := Int.emod_lt_of_pos which (show (0 : Int) < l.length by omega)
    exact ⟨(which % (l.length : Int)).toNat, by omega, by omega⟩
  rw [hq, ← lr2]
  have hqp : q < ps.length := by omega
  refine rdE (τ := .sl) (st.fz 5 (up g5)) hqp ?_
  have hrow := fun {h' : Heap} {As : List Asn} (st : Hs [([], h)] G2 As h') => st.fzm (gr1 q hql hqp)
  have hone := hml _ (List.getElem_mem hql)
  have hro := hr _ (List.getElem_mem hql)
  generalize l[q] = one at *
  generalize ps[q] = p at *
  have r2w : rightC (one ++ me) = true := right_small (fun x hx => (List.mem_append.1 hx).elim (hone.2 x) (her x)) (by simp; omega)
  refine made st (up g1) fun r16 h15 st => ?_
  refine st.nw fun b17 h16 st => ?_
  refine call_of (concat2_c (s := p) (s2 := r16) (st.blk 1 rfl) (hrow st) (st.own 0 rfl).rsl (by omega)) ?_
  rintro r18 h17 ⟨n17, x17⟩
  have st := st.new x17 n17
  refine st.nw fun b19 h18 st => ?_
  refine call_of (Check_c (cs := [one]) (st.own 2 rfl).rsl (lli_one (st.blk 3 rfl) (hrow st)) (by simp; omega) (by simp)) ?_
  rintro _ h19 ⟨rfl, x19⟩
  have st := ((((st.ext x19).drop 3 rfl).drop 2 rfl).drop 1 rfl).drop 0 rfl
  cases ha : alwaysC (one ++ me)
  · rw [more_one r2w hro (fun x hx => List.mem_append_left _ hx) ha]
    refine brF rfl ?_
    exact jn_in fun J hJ => brT rfl (hJ _ _ (hK _ _ ⟨rfl, st.frame (by simp)⟩))
  · rw [check_eq r2w (by simpa using hro) (by simp), ha, if_pos rfl]
    refine brF rfl ?_
    refine jn_in fun J hJ => brF rfl (jn_in fun J2 hJ2 => brT rfl ?_)
    refine made st (up g1) fun r25 h20 st => ?_
    refine st.nw fun b26 h21 st => ?_
    refine call_of (concat2_c (s := p) (s2 := r25) (st.blk 1 rfl) (hrow st) (st.own 0 rfl).rsl (by omega)) ?_
    rintro r27 h22 ⟨n22, x22⟩
    have st := st.new x22 n22
    refine call_of (always_c (st.own 2 rfl).rsl) ?_
    rintro _ h23 ⟨rfl, x23⟩
    have st := st.ext x23
    rw [r2w, ha]
    exact hJ2 _ _ (hJ _ _ (hK _ _ ⟨rfl, st.frame (by simp)⟩))

end Go.Proofs.S
