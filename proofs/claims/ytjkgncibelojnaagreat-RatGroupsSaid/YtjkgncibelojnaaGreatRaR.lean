/-
  RatGroups.
-/
import Derived.Test.YtjkgncibelojnaaGreatRaQ
import Derived.Test.YtjkgncibelojnaaGreatSxOv
set_option linter.unusedVariables false
set_option linter.unusedSimpArgs false
namespace Go.Sx
open Go
section
variable {h : Heap} {s : Sl} {i : Nat}
theorem rowAtR {xs : List tPr.T} {K : Addr → tPr.T → HP} (hA : At h (rsn 2 tPr.vals xs s)) (hi : i < xs.length)
    (hK : ∀ p, (∀ h' X, At h' (rsn 2 tPr.vals xs s) → X h' → ckA p (tPr.vals xs[i]) X h') → K p xs[i] h) : sx s.a s.len (i : Int) 2 (fun p => ldA tPr p fun x => K p x) h := by
  obtain ⟨a, ea, hc⟩ := rsn_cells hA (List.getElem?_eq_getElem hi)
  have ok : ∀ h', At h' (rsn 2 tPr.vals xs s) → CellsAt h' (a.add (i * 2)) 0 (tPr.vals xs[i]) := fun h' hA' => by
    obtain ⟨a', ea', hc'⟩ := rsn_cells hA' (List.getElem?_eq_getElem hi)
    rw [ea] at ea'; cases ea'
    refine cellsAt_of _ 0 fun j v hv => ?_
    rw [addr_add_add, Nat.zero_add]
    exact hc' j v hv
  refine ⟨a, ea, Int.natCast_nonneg _, Int.ofNat_lt.2 (by rw [rsn_len hA]; exact hi), ?_⟩
  rw [Int.toNat_natCast]
  exact ⟨xs[i], ok h hA, hK _ fun h' X hA' hX => ⟨ok h' hA', hX⟩⟩
theorem intAtR {c : List Int} {K : Addr → Int → HP} (hA : At h (rsl (Ty.int .i64).enc c s)) (hi : i < c.length)
    (hK : ∀ p, (∀ h' X, At h' (rsl (Ty.int .i64).enc c s) → X h' → ck p (.int .i64 c[i]) X h') → K p c[i] h) : sx s.a s.len (i : Int) 1 (fun p => ldT (.int .i64) p fun x => K p x) h := by
  obtain ⟨a, ea, hc⟩ := rsl_cells hA (List.getElem?_eq_getElem hi)
  have ok : ∀ h', At h' (rsl (Ty.int .i64).enc c s) → cell h' (a.add (i * 1)) = some (.int .i64 c[i]) := fun h' hA' => by
    obtain ⟨a', ea', hc'⟩ := rsl_cells hA' (List.getElem?_eq_getElem hi)
    rw [ea] at ea'; cases ea'
    have h2 : cell h' (a.add i) = some ((Ty.int .i64).enc c[i]) := by simpa using hc'
    rw [Nat.mul_one]; exact h2
  refine ⟨a, ea, Int.natCast_nonneg _, Int.ofNat_lt.2 (by rw [rsl_len hA]; exact hi), ?_⟩
  rw [Int.toNat_natCast]
  exact ⟨c[i], ok h hA, hK _ fun h' X hA' hX => ⟨ok h' hA', hX⟩⟩
end
end Go.Sx
namespace Go.Proofs.S
open Go Go.Sx Go.Proofs Go.Cl Go.Rp Go.Rt

variable {h : Heap} {c d A f ids hs : List Int} {l bad X : List Ent} {cs : List (List Int)} {gs us vs : List Grp} {s s2 s3 s4 sc sa sb sL sH sG : Sl} {fr : Fr} {G As : List Asn} {id p n a2 : Int} {i k : Nat} {b m b4 : Nat}

set_option maxRecDepth 100000 in
def GrTl (b4 : Nat) (sa sc : Sl) (a2 : Int) (sb : Sl) (K : Bool → HP) : HP :=
 ldA (.cons .sl (.cons .sl (.cons .sl .nil))) (⟨b4, 0, none⟩ : Addr) fun x25 =>
 callT Tryz.prog fn_rat_Check #[(.slice sb.a sb.len sb.cap), (.agg #[(.slice x25.1.a x25.1.len x25.1.cap), (.slice x25.2.1.a x25.2.1.len x25.2.1.cap), (.slice x25.2.2.1.a x25.2.2.1.len x25.2.2.1.cap)])] (.tup (.cons (.int .u8) (.cons (.int .i64) (.cons (.int .i64) .nil)))) fun r26 =>
 jn (σ := Bool) (fun t28 =>
 brB t28
 (K false)
 (ldA (.cons .sl (.cons .sl (.cons .sl .nil))) (⟨b4, 0, none⟩ : Addr) fun x29 =>
 nw #[(.slice none 0 0), (.slice none 0 0), (.slice none 0 0)] ty_rat_Step fun b30 =>
 st1 (⟨b30, 0, none⟩ : Addr) (.slice x29.1.a x29.1.len x29.1.cap) <|
 st1 ((⟨b30, 0, none⟩ : Addr).add 1) (.slice x29.2.1.a x29.2.1.len x29.2.1.cap) <|
 st1 ((⟨b30, 0, none⟩ : Addr).add 2) (.slice x29.2.2.1.a x29.2.2.1.len x29.2.2.1.cap) <|
 ldT .sl ((⟨b4, 0, none⟩ : Addr).add 2) fun x31 =>
 callT Tryz.prog fn_slices_Clone_rat_Group_rat_Group #[(.slice x31.a x31.len x31.cap)] .sl fun r32 =>
 nw #[(.int .i64 (900 : Int)), (.slice none 0 0)] ty_rat_Group fun b33 =>
 apd ty_rat_Group 2 32 #[(.int .i64 (0 : Int)), (.slice none 0 0)] ⟨r32.a, r32.len, r32.cap⟩ ⟨(some (⟨b33, 0, none⟩ : Addr)), 1, 1⟩ fun s34 =>
 st1 ((⟨b30, 0, none⟩ : Addr).add 2) (.slice s34.a s34.len s34.cap) <|
 ldA (.cons .sl (.cons .sl (.cons .sl .nil))) (⟨b30, 0, none⟩ : Addr) fun x35 =>
 callT Tryz.prog fn_rat_Check #[(.slice sb.a sb.len sb.cap), (.agg #[(.slice x35.1.a x35.1.len x35.1.cap), (.slice x35.2.1.a x35.2.1.len x35.2.1.cap), (.slice x35.2.2.1.a x35.2.2.1.len x35.2.2.1.cap)])] (.tup (.cons (.int .u8) (.cons (.int .i64) (.cons (.int .i64) .nil)))) fun r36 =>
 jn (σ := Bool) (fun t38 =>
 brB t38
 (K false)
 (brB ((sc.len : Int) == (0 : Int))
 (K true)
 (nz (sc.len : Int) <|
 ldT .sl ((⟨b4, 0, none⟩ : Addr).add 2) fun x39 =>
 sx x39.a x39.len (Int.tmod (IntKind.wrap .i64 a2) (sc.len : Int)) 2 fun p40 =>
 ldT (.int .i64) p40 fun x41 =>
 sx sc.a sc.len (Int.tmod (IntKind.wrap .i64 a2) (sc.len : Int)) 1 fun p42 =>
 ldT (.int .i64) p42 fun x43 =>
 brB (x41 != x43)
 (K false)
 (ldT .sl ((⟨b4, 0, none⟩ : Addr).add 2) fun x44 =>
 callT Tryz.prog fn_slices_Clone_rat_Group_rat_Group #[(.slice x44.a x44.len x44.cap)] .sl fun r45 =>
 callT Tryz.prog fn_slices_Delete_rat_Group_rat_Group #[(.slice r45.a r45.len r45.cap), (.int .i64 (Int.tmod (IntKind.wrap .i64 a2) (sc.len : Int))), (.int .i64 (IntKind.wrap .i64 ((Int.tmod (IntKind.wrap .i64 a2) (sc.len : Int)) + (1 : Int))))] .sl fun r46 =>
 st1 ((⟨b30, 0, none⟩ : Addr).add 2) (.slice r46.a r46.len r46.cap) <|
 ldA (.cons .sl (.cons .sl (.cons .sl .nil))) (⟨b30, 0, none⟩ : Addr) fun x47 =>
 callT Tryz.prog fn_rat_Check #[(.slice sa.a sa.len sa.cap), (.agg #[(.slice x47.1.a x47.1.len x47.1.cap), (.slice x47.2.1.a x47.2.1.len x47.2.1.cap), (.slice x47.2.2.1.a x47.2.2.1.len x47.2.2.1.cap)])] (.tup (.cons (.int .u8) (.cons (.int .i64) (.cons (.int .i64) .nil)))) fun r48 =>
 sx sc.a sc.len (Int.tmod (IntKind.wrap .i64 a2) (sc.len : Int)) 1 fun p49 =>
 ldT (.int .i64) p49 fun x50 =>
 jn (σ := Bool) (fun t52 =>
 brB t52
 (K false)
 (ldT .sl ((⟨b4, 0, none⟩ : Addr).add 2) fun x53 =>
 ldT .sl ((⟨b4, 0, none⟩ : Addr).add 2) fun x54 =>
 sx x54.a x54.len (Int.tmod (IntKind.wrap .i64 a2) (sc.len : Int)) 2 fun p55 =>
 ldA (.cons (.int .i64) (.cons .sl .nil)) p55 fun x56 =>
 cj
 (callT Tryz.prog fn_slices_Clone_rat_Group_rat_Group #[(.slice x53.a x53.len x53.cap)] .sl fun r57 =>
 ckA p55 [(.int .i64 x56.1), (.slice x56.2.1.a x56.2.1.len x56.2.1.cap)] <|
 ck ((⟨b4, 0, none⟩ : Addr).add 2) (.slice x54.a x54.len x54.cap) <|
 nw #[(.int .i64 x56.1), (.slice x56.2.1.a x56.2.1.len x56.2.1.cap)] ty_rat_Group fun b58 =>
 apd ty_rat_Group 2 32 #[(.int .i64 (0 : Int)), (.slice none 0 0)] ⟨r57.a, r57.len, r57.cap⟩ ⟨(some (⟨b58, 0, none⟩ : Addr)), 1, 1⟩ fun s59 =>
 st1 ((⟨b30, 0, none⟩ : Addr).add 2) (.slice s59.a s59.len s59.cap) <|
 ldA (.cons .sl (.cons .sl (.cons .sl .nil))) (⟨b30, 0, none⟩ : Addr) fun x60 =>
 callT Tryz.prog fn_rat_Check #[(.slice sa.a sa.len sa.cap), (.agg #[(.slice x60.1.a x60.1.len x60.1.cap), (.slice x60.2.1.a x60.2.1.len x60.2.1.cap), (.slice x60.2.2.1.a x60.2.2.1.len x60.2.2.1.cap)])] (.tup (.cons (.int .u8) (.cons (.int .i64) (.cons (.int .i64) .nil)))) fun r61 =>
 sx sc.a sc.len (Int.tmod (IntKind.wrap .i64 a2) (sc.len : Int)) 1 fun p62 =>
 ldT (.int .i64) p62 fun x63 =>
 jn (σ := Bool) (fun t65 =>
 K t65)
 (fun J64 =>
 brB (r61.2.1 == x63)
 (J64 ((r61.2.2.1 == (92 : Int))))
 (J64 false)))
 (nw #[(.int .i64 x56.1), (.slice x56.2.1.a x56.2.1.len x56.2.1.cap)] ty_rat_Group fun b66 =>
 callT Tryz.prog fn_slices_Clone_rat_Group_rat_Group #[(.slice x53.a x53.len x53.cap)] .sl fun r67 =>
 ckA p55 [(.int .i64 x56.1), (.slice x56.2.1.a x56.2.1.len x56.2.1.cap)] <|
 ck ((⟨b4, 0, none⟩ : Addr).add 2) (.slice x54.a x54.len x54.cap) <|
 apd ty_rat_Group 2 32 #[(.int .i64 (0 : Int)), (.slice none 0 0)] ⟨r67.a, r67.len, r67.cap⟩ ⟨(some (⟨b66, 0, none⟩ : Addr)), 1, 1⟩ fun s68 =>
 st1 ((⟨b30, 0, none⟩ : Addr).add 2) (.slice s68.a s68.len s68.cap) <|
 ldA (.cons .sl (.cons .sl (.cons .sl .nil))) (⟨b30, 0, none⟩ : Addr) fun x69 =>
 callT Tryz.prog fn_rat_Check #[(.slice sa.a sa.len sa.cap), (.agg #[(.slice x69.1.a x69.1.len x69.1.cap), (.slice x69.2.1.a x69.2.1.len x69.2.1.cap), (.slice x69.2.2.1.a x69.2.2.1.len x69.2.2.1.cap)])] (.tup (.cons (.int .u8) (.cons (.int .i64) (.cons (.int .i64) .nil)))) fun r70 =>
 sx sc.a sc.len (Int.tmod (IntKind.wrap .i64 a2) (sc.len : Int)) 1 fun p71 =>
 ldT (.int .i64) p71 fun x72 =>
 jn (σ := Bool) (fun t74 =>
 K t74)
 (fun J73 =>
 brB (r70.2.1 == x72)
 (J73 ((r70.2.2.1 == (92 : Int))))
 (J73 false)))))
 (fun J51 =>
 brB (r48.2.1 != x50)
 (J51 true)
 (J51 ((r48.2.2.1 != (92 : Int)))))))))
 (fun J37 =>
 brB (r36.2.1 != (900 : Int))
 (J37 true)
 (J37 ((r36.2.2.1 != (92 : Int)))))))
 (fun J27 =>
 brB (r26.2.2.1 != (0 : Int))
 (J27 true)
 (J27 ((r26.1 != (2 : Int)))))

theorem cloneGz {K : Sl → HP} {ps : List tPr.T} (st : Hs fr G As h) (hy : At h (rsn 2 tPr.vals ps s)) (hlen : ps.length ≤ 1048576) (hK : ∀ s' h', Hs fr G (As ++ [osn ty_rat_Group 2 tPr.vals ps s']) h' → K s' h') :
    callT Tryz.prog fn_slices_Clone_rat_Group_rat_Group #[.slice s.a s.len s.cap] .sl K h :=
  S_slices_Clone_rat_Group_rat_Group (a0 := s) K (Hs.cloneN (t := ty_rat_Group) (by_ := 32) (z := #[.int .i64 0, .slice none 0 0]) st widePr (by decide) hy leafPr (by omega) (by decide) rfl hK)
theorem deleteG {K : Sl → HP} {ps : List tPr.T} (st : Hs fr G As h) (k : Nat) (hk : As[k]? = some (osn ty_rat_Group 2 tPr.vals ps s)) (hi : i < ps.length) {ii jj : Int} (e1 : ii = (i : Int)) (e2 : jj = ((i + 1 : Nat) : Int))
    (hK : ∀ s' h', Hs fr G (As.set k (osn ty_rat_Group 2 tPr.vals (ps.eraseIdx i) s')) h' → K s' h') :
    callT Tryz.prog fn_slices_Delete_rat_Group_rat_Group #[.slice s.a s.len s.cap, .int .i64 ii, .int .i64 jj] .sl K h := by
  subst e1 e2
  exact S_slices_Delete_rat_Group_rat_Group (a0 := s) (a1 := (i : Int)) (a2 := ((i + 1 : Nat) : Int)) K (Hs.delN (t := ty_rat_Group) (by_ := 32) (z := #[.int .i64 0, .slice none 0 0]) st widePr (by decide) k hk leafPr rfl (by decide) hi hK)

def Rows (h : Heap) (gs : List Grp) (ps : List tPr.T) : Prop := ps.length = gs.length ∧ ∀ i (a : i < gs.length) (b : i < ps.length), ps[i].1 = gs[i].1 ∧ At h (li gs[i].2 ps[i].2.1)
theorem Rows.ext {h' : Heap} {ps : List tPr.T} (r : Rows h gs ps) (x : Ext [] h h') : Rows h' gs ps := ⟨r.1, fun i a b => ⟨(r.2 i a b).1, (r.2 i a b).2.ext x⟩⟩
theorem Rows.toE {ps : List tPr.T} (r : Rows h gs ps) (ho : At h (rsn 2 tPr.vals ps s)) : At h (ent gs s) := rsp_at r.1 ho r.2
theorem Rows.snoc {ps : List tPr.T} {g : Grp} {q : Sl} (r : Rows h gs ps) (hq : At h (li g.2 q)) : Rows h (gs ++ [g]) (ps ++ [(g.1, q, ())]) := by
  have hl := r.1
  refine ⟨by simp [hl], fun i a b => ?_⟩
  by_cases hi : i < gs.length
  · rw [List.getElem_append_left hi, List.getElem_append_left (by omega)]
    exact r.2 i hi _
  · have e : i = gs.length := by simp at a; omega
    subst e
    rw [List.getElem_append_right (by omega), List.getElem_append_right (by omega)]
    simp only [hl, Nat.sub_self, List.getElem_cons_zero]
    exact ⟨trivial, hq⟩
theorem Rows.erase {ps : List tPr.T} (r : Rows h gs ps) (hi : i < gs.length) : Rows h (gs.eraseIdx i) (ps.eraseIdx i) := by
  have hl := r.1
  refine ⟨by rw [List.length_eraseIdx_of_lt hi, List.length_eraseIdx_of_lt (by omega), hl], fun j a b => ?_⟩
  rw [List.length_eraseIdx_of_lt hi] at a
  rw [List.getElem_eraseIdx, List.getElem_eraseIdx]
  by_cases hj : j < i
  · rw [dif_pos hj, dif_pos hj]; exact r.2 j _ _
  · rw [dif_neg hj, dif_neg hj]; exact r.2 (j + 1) _ _
theorem rows_open (hA : At h (ent gs s)) : ∃ ps, Rows h gs ps ∧ At h (rsn 2 tPr.vals ps s) := by
  obtain ⟨ps, lp, ho, hx⟩ := rsp_open hA
  exact ⟨ps, ⟨lp, hx⟩, ho⟩

set_option maxRecDepth 20000 in
set_option maxHeartbeats 2000000 in
theorem grTl_c {K : Bool → HP} {r : List Int} (hb4 : At h (cl b4 ty_rat_Step [.slice sL.a sL.len sL.cap, .slice sH.a sH.len sH.cap, .slice sG.a sG.len sG.cap])) (hA : At h (ent l sa)) (hI : At h (li ids sc)) (hB : At h (ent (l ++ X) sb)) (hL : At h (li c sL)) (hH : At h (li hs sH)) (hG : At h (ent gs sG))
    (hll : l.length ≤ 1000) (hlX : (l ++ X).length ≤ 1000) (hcl : c.length ≤ 1000) (hhl : hs.length ≤ 500000) (hgl : gs.length ≤ 1000) (hgh : ∀ g ∈ gs, g.2.length ≤ 500000) (hc : c = p :: r)
    (hk : GrpOk l p gs) (hids : ids = candIDs l p) (h900 : (900 : Int) ∉ candIDs l p) (hX : ∀ x ∈ X, isCand p x = false)
    (hck : checkS l ⟨c, hs, gs⟩ = (2, 0, 0)) (hck2 : checkS (l ++ X) ⟨c, hs, gs⟩ = (2, 0, 0)) (k0 : 0 ≤ a2) (k1 : a2 ≤ 255) (hK : ∀ h', Ext [] h h' → K true h') : GrTl b4 sa sc a2 sb K h := by
  unfold GrTl
  obtain ⟨ps, hR, hps⟩ := rows_open hG
  have lids : ids.length = gs.length := by rw [hids, ← hk.ids]; simp
  have lsc := rsl_len hI
  have st := Hs.start h [cl b4 ty_rat_Step [.slice sL.a sL.len sL.cap, .slice sH.a sH.len sH.cap, .slice sG.a sG.len sG.cap], ent l sa, li ids sc, ent (l ++ X) sb, li c sL, li hs sH, ent gs sG, rsn 2 tPr.vals ps sG] (by simp [hb4, hA, hI, hB, hL, hH, hG, hps])
  have hR' : ∀ h', Ext [] h h' → Rows h' gs ps := fun h' x => hR.ext x
  have lps := hR.1
  refine ldRow (τ := .cons .sl (.cons .sl (.cons .sl .nil))) (x := (sL, sH, sG, ())) (st.fblk 0 rfl) ?_
  refine call_of (RatCheck_c (st.fz 3 rfl) (st.fz 4 rfl) (st.fz 5 rfl) (st.fz 6 rfl) (by omega) (by omega) hhl (by omega) hgh) ?_
  rintro _ h1 ⟨rfl, x1⟩
  have st := st.ext x1
  rw [hck2]
  simp only
  refine jn_in fun J hJ => brF rfl (hJ _ _ (brF rfl ?_))
  clear J hJ
  refine ldRow (τ := .cons .sl (.cons .sl (.cons .sl .nil))) (x := (sL, sH, sG, ())) (st.fblk 0 rfl) ?_
  refine st.nw fun b30 h2 st => ?_
  simp only [List.nil_append, List.cons_append, addr_add, Nat.zero_add] at st ⊢
  refine st.st1 0 0 rfl (by simp) fun h3 st => ?_
  refine st.st1 0 1 rfl (by simp) fun h3 st => ?_
  refine st.st1 0 2 rfl (by simp) fun h3 st => ?_
  simp only [List.set_cons_zero, List.set_cons_succ] at st
  rw [ld_sl (i := 2) (st.fblk 0 rfl) rfl]
  refine cloneGz st (st.fz 7 rfl) (by omega) fun s32 h4 st => ?_
  refine st.nw fun b33 h5 st => ?_
  simp only [List.nil_append, List.cons_append] at st
  refine Hs.apdN (v := ((900, ⟨none, 0, 0⟩, ()) : tPr.T)) st widePr (by decide) 1 2 rfl rfl (by decide) (leafPr _) (by omega) (by decide) rfl fun s34 h6 st => ?_
  simp only [List.set_cons_zero, List.set_cons_succ] at st
  refine st.st1 0 2 rfl (by simp) fun h7 st => ?_
  simp only [List.set_cons_zero, List.set_cons_succ] at st
  refine ldRow (τ := .cons .sl (.cons .sl (.cons .sl .nil))) (x := (sL, sH, s34, ())) (st.blk 0 rfl) ?_
  have aE := Rows.toE ((hR' _ (st.frame (by simp))).snoc (g := (900, [])) nil_li) ((st.own 1 rfl).rsn widePr)
  refine call_of (RatCheck_c (st.fz 3 rfl) (st.fz 4 rfl) (st.fz 5 rfl) aE (by omega) (by omega) hhl (by simp; omega) (fun g hg => by
    rcases List.mem_append.1 hg with hg | hg
    · exact hgh g hg
    · simp only [List.mem_singleton] at hg; subst hg; simp)) ?_
  rintro _ h8 ⟨rfl, x8⟩
  have st := st.ext x8
  have e1 : groupsP (l ++ X) p (gs ++ [(900, [])]) = (900, 92) := by rw [groupsP_more hX]; exact hk.more (.inl h900)
  have e2 := check_groups (s := ⟨c, hs, gs⟩) hck2 hc (gs := gs ++ [(900, [])]) (by rw [e1]; decide)
  rw [e1] at e2
  simp only at e2
  rw [e2]
  simp only
  refine jn_in fun J hJ => brF rfl (hJ _ _ (brF rfl ?_))
  clear J hJ
  have st := (st.drop 2 rfl).drop 1 rfl
  simp only [List.eraseIdx_cons_succ, List.eraseIdx_cons_zero] at st
  by_cases h0 : ids.length = 0
  · exact brT (by rw [lsc, h0]; rfl) (hK _ (st.frame (by simp)))
  refine brF (by rw [lsc]; simp; intro e; rw [e] at h0; exact h0 rfl) ?_
  obtain ⟨i, hi⟩ : ∃ i : Nat, i = a2.toNat % ids.length := ⟨_, rfl⟩
  have hil : i < ids.length := by rw [hi]; exact Nat.mod_lt _ (by omega)
  have ei : Int.tmod (IntKind.wrap .i64 a2) (sc.len : Int) = (i : Int) := by
    rw [wrap_i64 (by omega) (by omega), lsc, Int.tmod_eq_emod_of_nonneg k0, hi, Int.natCast_emod, Int.toNat_of_nonneg k0]
  rw [ei]
  refine ⟨by omega, ?_⟩
  have hig : i < gs.length := by omega
  have egi : ids[i] = gs[i].1 := by
    have : ids = gs.map (·.1) := by rw [hids, ← hk.ids]
    simp [this]
  rw [ld_sl (i := 2) (st.fblk 0 rfl) rfl]
  refine rdPri (st.fz 6 rfl) hig ?_
  refine rdE (τ := i64) (st.fz 2 rfl) hil ?_
  refine brF (by rw [egi]; simp) ?_
  rw [ld_sl (i := 2) (st.fblk 0 rfl) rfl]
  refine cloneGz st (st.fz 7 rfl) (by omega) fun s45 h9 st => ?_
  simp only [List.nil_append, List.cons_append] at st
  refine deleteG st 1 rfl (by omega) rfl (inc_i (by omega)) fun s46 h10 st => ?_
  simp only [List.set_cons_zero, List.set_cons_succ] at st
  refine st.st1 0 2 rfl (by simp) fun h11 st => ?_
  simp only [List.set_cons_zero, List.set_cons_succ] at st
  refine ldRow (τ := .cons .sl (.cons .sl (.cons .sl .nil))) (x := (sL, sH, s46, ())) (st.blk 0 rfl) ?_
  have aE2 := Rows.toE ((hR' _ (st.frame (by simp))).erase hig) ((st.own 1 rfl).rsn widePr)
  refine call_of (RatCheck_c (st.fz 1 rfl) (st.fz 4 rfl) (st.fz 5 rfl) aE2 (by omega) (by omega) hhl (by rw [List.length_eraseIdx_of_lt hig]; omega) (fun g hg => hgh g (List.mem_of_mem_eraseIdx hg))) ?_
  rintro _ h12 ⟨rfl, x12⟩
  have st := st.ext x12
  have e3 := hk.less hig
  have e4 := check_groups (s := ⟨c, hs, gs⟩) hck hc (gs := gs.eraseIdx i) (by rw [e3]; simp)
  rw [e3] at e4
  simp only at e4
  rw [e4]
  simp only
  refine rdE (τ := i64) (st.fz 2 rfl) hil ?_
  refine jn_in fun J hJ => brF (by rw [egi]; simp) (hJ _ _ (brF rfl ?_))
  clear J hJ
  have st := st.drop 1 rfl
  simp only [List.eraseIdx_cons_succ, List.eraseIdx_cons_zero] at st
  rw [ld_sl (i := 2) (st.fblk 0 rfl) rfl, ld_sl (i := 2) (st.fblk 0 rfl) rfl]
  have hip : i < ps.length := by omega
  refine rowAtR (st.fz 7 rfl) hip fun p55 hp55 => ?_
  obtain ⟨g1, gq⟩ := hR.2 i hig hip
  have e5 : groupsP l p (gs ++ [gs[i]]) = (gs[i].1, 92) := hk.more (.inr ⟨gs[i], List.getElem_mem hig, Int.le_refl _⟩)
  have e6 := check_groups (s := ⟨c, hs, gs⟩) hck hc (gs := gs ++ [gs[i]]) (by rw [e5]; simp)
  rw [e5] at e6
  simp only at e6
  have aE3 : ∀ h' s', Ext [] h h' → At h' (rsn 2 tPr.vals (ps ++ [ps[i]]) s') → At h' (ent (gs ++ [gs[i]]) s') := fun h' s' x ho => by
    refine Rows.toE ((hR' _ x).snoc (g := gs[i]) (q := ps[i].2.1) (gq.ext x)) ?_
    rw [← g1]; exact ho
  have hgh3 : ∀ g ∈ gs ++ [gs[i]], g.2.length ≤ 500000 := fun g hg => by
    rcases List.mem_append.1 hg with hg | hg
    · exact hgh g hg
    · simp only [List.mem_singleton] at hg; subst hg; exact hgh _ (List.getElem_mem hig)
  generalize gs[i] = gi at *
  generalize ps[i] = pi at *
  constructor
  · refine cloneGz st (st.fz 7 rfl) (by omega) fun s57 h13 st => ?_
    simp only [List.nil_append, List.cons_append] at st
    refine hp55 _ _ (st.fz 7 rfl) ?_
    rw [ck_ok (st.fblk 0 rfl) rfl]
    refine st.nw fun b58 h14 st => ?_
    simp only [List.nil_append, List.cons_append] at st
    refine Hs.apdN (v := pi) st widePr (by decide) 1 2 rfl rfl (by decide) (leafPr _) (by omega) (by decide) rfl fun s59 h15 st => ?_
    simp only [List.set_cons_zero, List.set_cons_succ] at st
    refine st.st1 0 2 rfl (by simp) fun h16 st => ?_
    simp only [List.set_cons_zero, List.set_cons_succ] at st
    refine ldRow (τ := .cons .sl (.cons .sl (.cons .sl .nil))) (x := (sL, sH, s59, ())) (st.blk 0 rfl) ?_
    refine call_of (RatCheck_c (st.fz 1 rfl) (st.fz 4 rfl) (st.fz 5 rfl) (aE3 _ _ (st.frame (by simp)) ((st.own 1 rfl).rsn widePr)) (by omega) (by omega) hhl (by simp; omega) hgh3) ?_
    rintro _ h17 ⟨rfl, x17⟩
    have st := st.ext x17
    rw [e6]
    simp only
    refine rdE (τ := i64) (st.fz 2 rfl) hil ?_
    exact jn_in fun J hJ => brT (by rw [egi]; simp) (hJ _ _ (hK _ (st.frame (by simp))))
  · refine st.nw fun b58 h13 st => ?_
    refine cloneGz st (st.fz 7 rfl) (by omega) fun s57 h14 st => ?_
    simp only [List.nil_append, List.cons_append] at st
    refine hp55 _ _ (st.fz 7 rfl) ?_
    rw [ck_ok (st.fblk 0 rfl) rfl]
    refine Hs.apdN (v := pi) st widePr (by decide) 2 1 rfl rfl (by decide) (leafPr _) (by omega) (by decide) rfl fun s59 h15 st => ?_
    simp only [List.set_cons_zero, List.set_cons_succ] at st
    refine st.st1 0 2 rfl (by simp) fun h16 st => ?_
    simp only [List.set_cons_zero, List.set_cons_succ] at st
    refine ldRow (τ := .cons .sl (.cons .sl (.cons .sl .nil))) (x := (sL, sH, s59, ())) (st.blk 0 rfl) ?_
    refine call_of (RatCheck_c (st.fz 1 rfl) (st.fz 4 rfl) (st.fz 5 rfl) (aE3 _ _ (st.frame (by simp)) ((st.own 2 rfl).rsn widePr)) (by omega) (by omega) hhl (by simp; omega) hgh3) ?_
    rintro _ h17 ⟨rfl, x17⟩
    have st := st.ext x17
    rw [e6]
    simp only
    refine rdE (τ := i64) (st.fz 2 rfl) hil ?_
    exact jn_in fun J hJ => brT (by rw [egi]; simp) (hJ _ _ (hK _ (st.frame (by simp))))

end Go.Proofs.S
