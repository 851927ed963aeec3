/-
  CrashWrong.
-/
import Derived.Test.YtchedlkmgahicaaCrFw
import Derived.Test.YtchedlkmgahicaaCrX0
import Derived.Test.YtchedlkmgahicaaCrW3
import Derived.Test.YtchedlkmgahicaaCrE
import Derived.Test.YtchedlkmgahicaaSxWi
import Derived.Test.YtchedlkmgahicaaSxPk
set_option linter.unusedVariables false
set_option linter.unusedSimpArgs false
namespace Go.Cr
theorem check_snoc {l : List Ent} {b : Bool} (h : rightL l = true) : checkC l (List.replicate l.length false ++ [b]) = 351 := by
  unfold checkC; rw [if_pos h, if_neg (by simp)]
theorem fits_no {l : List Ent} {e : Int} : fitsP 2 (l ++ [(2, 0, e, ())]) = false := by
  unfold fitsP; simp
theorem check_bad {l : List Ent} {k : List Bool} (h : rightL l = false) : checkC l k = 350 := by unfold checkC; rw [h]; rfl
end Go.Cr
namespace Go.Proofs.S
open Go Go.Sx Go.Proofs Go.Cr

variable {h h0 : Heap} {l bad : List Ent} {k : List Bool} {m : List Int} {s s2 s3 sc sb sk sw : Sl} {fr : Fr} {G As : List Asn} {rb : Nat} {v : Value} {K : Bool → HP}

theorem all0_iter {b : Nat} {F : List Nat} (hG : ∀ C ∈ [cA b s, le l s], ∃ SC, C.P SC h ∧ ∀ b ∈ SC, b ∈ F) (hF : ∀ b ∈ F, b < h.size) (hl : l.length ≤ 1099511627776) (hr : rightL l = false) :
    IterG Try.prog (.cons .val .nil) (allV b) h (fun pre x h2 N => False ∧ N = []) (fun pre => pre = []) F [] := by
  refine iter_of hG hF ?_
  intro A D B0 yl c it K hfin hD
  refine callF_func (S_crash_All_1 (a0 := yl) (c0 := ⟨b, 0, none⟩) K ?_)
  unfold F_crash_All_1
  obtain ⟨S, st, close⟩ := it.open c
  rw [ld_sl (i := 0) (st.fblk 0 rfl) rfl]
  refine call_of (right_c (st.fz 1 rfl) hl) ?_
  rintro _ h1 ⟨rfl, x1⟩
  have st := st.ext x1
  refine brT (by rw [hr]; rfl) ?_
  exact hfin [] B0 _ rfl (close _ _ st).1
theorem all0_hit {b : Nat} (hgb : cA b s ∈ G) (hgl : le l s ∈ G) (hl : l.length ≤ 1099511627776) (hr : rightL l = false) :
    ∀ S, FzOk G S h → FrOk fr S h → ∃ F, (∀ b ∈ F, b < h.size ∧ b ∉ S) ∧ ∀ h1, NewL h h1 → IterSpec Try.prog (.cons .val .nil) (allV b) h1 (fun _ _ => False) (fun pre => pre = []) F [] := by
  intro S hz _
  obtain ⟨S1, p1, d1⟩ := hz _ hgb
  obtain ⟨S2, p2, d2⟩ := hz _ hgl
  have hlt : ∀ b ∈ S1 ++ S2, b < h.size := fun b hb => (List.mem_append.1 hb).elim (At.lt p1 b) (At.lt p2 b)
  refine ⟨S1 ++ S2, fun b hb => ⟨hlt b hb, (List.mem_append.1 hb).elim (d1 b) (d2 b)⟩, fun h1 hn => all0_iter (s := s) (fun C hC => ?_) (fun b hb => Nat.lt_of_lt_of_le (hlt b hb) hn.1.1) hl hr⟩
  simp only [List.mem_cons, List.not_mem_nil, or_false] at hC
  rcases hC with rfl | rfl
  · exact ⟨S1, Asn.ext p1 hn.1 (by simp), fun b hb => List.mem_append_left _ hb⟩
  · exact ⟨S2, Asn.ext p2 hn.1 (by simp), fun b hb => List.mem_append_right _ hb⟩

abbrev rC (b : Nat) (v : Value) : Asn := cl b ty_bool [v]
theorem retR (st : Hs [([], h0)] G (rC rb (.bool true) :: As) h) (hK : ∀ h', Ext [] h0 h' → K true h') : (mkd h0.size <| ldT .bool (⟨rb, 0, none⟩ : Addr) fun x => K x) h := by
  intro h2 hM
  have st := st.marked hM
  rw [st.ldb 0 0 rfl rfl]
  exact hK _ (st.frame (by simp))
abbrev two : List Ent := [(0, 0, 1, ()), (0, 0, 2, ())]
theorem drop_two : (dropP two [false, true]).2 = 2 := by decide

theorem p6 (st : Hs [([], h0)] G [rC rb v] h) (hK : ∀ h', Ext [] h0 h' → K true h') : F_salvorlaw35_CrashWrong_6 h0.size K rb (2, 2, 351, 351, 351, 351, ()) h := by
  unfold F_salvorlaw35_CrashWrong_6
  refine st.nw fun b0 h1 st => ?_
  refine st.nw fun b1 h2 st => ?_
  simp only [List.cons_append, List.nil_append] at st
  have st := st.asSn 1 3 tE.vals two rfl rfl
  simp only [List.set_cons_zero, List.set_cons_succ] at st
  have st := st.asSl 2 Ty.bool.enc [false, true] rfl rfl
  simp only [List.set_cons_zero, List.set_cons_succ] at st
  refine call_of (drop_c (l := two) (k := [false, true]) (s := ⟨some ⟨b0, 0, none⟩, 2, 2⟩) (s2 := ⟨some ⟨b1, 0, none⟩, 2, 2⟩) ((st.own 1 rfl).rsn wideE) (st.own 2 rfl).rsl (by decide)) ?_
  rintro _ h3 ⟨s', rfl, n3, x3⟩
  have st := st.ext x3
  simp only [drop_two]
  refine jn_in fun J hJ => brT (by decide) (hJ _ _ ?_)
  refine jn_in fun J hJ => brT (by decide) (hJ _ _ ?_)
  refine jn_in fun J hJ => brT (by decide) (hJ _ _ ?_)
  refine jn_in fun J hJ => brT (by decide) (hJ _ _ ?_)
  refine jn_in fun J hJ => brT (by decide) (hJ _ _ ?_)
  refine jn_in fun J hJ => brT (by decide) (hJ _ _ ?_)
  refine st.st1 0 0 rfl (by simp) fun h4 st => ?_
  exact retR st hK

abbrev xE : Ent := (2, 0, 99, ())
theorem sl2 (hA : At h (ow [0, 0, 0] sw)) {X : Sl → HP} (hX : X (slR sw 0 2 1) h) : slH ⟨sw.a, sw.len, sw.cap⟩ (2 : Int) 1 X h := by
  have l1 := rsl_len hA.rsl
  have l2 := rsl_cap hA.rsl
  simp only [List.length_cons, List.length_nil] at l1
  exact ⟨by decide, show (2 : Int) ≤ (sw.cap : Int) by omega, hX⟩
theorem at2 (hA : At h (ow [0, 0, 0] sw)) : At h (lw [0, 0] (slR sw 0 2 1)) := rsl_sub hA.rsl (l := 0) (m := 2) (by decide) (by decide)

theorem p5 {e6 : Int} (st : Hs [([], h0)] G [rC rb v, oe l sc, ow [0, 0, 0] sw] h) (hr : rightL (l ++ [xE]) = true) (hl : l.length ≤ 20) (hK : ∀ h', Ext [] h0 h' → K true h') :
    F_salvorlaw35_CrashWrong_5 h0.size K rb (2, 351, 351, 351, 351, e6, sw, sc, ()) h := by
  unfold F_salvorlaw35_CrashWrong_5
  refine sl2 (st.own 2 rfl) ?_
  refine st.nw fun b1 h1 st => ?_
  simp only [List.cons_append, List.nil_append] at st
  refine Hs.apdB (v := xE) st wideE (by decide) 1 3 rfl rfl (by decide) (leafE _) (by omega) (by decide) rfl fun s2 h2 st => ?_
  simp only [List.set_cons_zero, List.set_cons_succ] at st
  refine call_of (results_c (l := l ++ [xE]) (m := [0, 0]) (bothA_r (st.own 1 rfl)) (at2 (st.own 2 rfl)) (by simp; omega) (by decide)) ?_
  rintro _ h3 ⟨s', rfl, n3, x3⟩
  have st := st.ext x3
  have e : (resP [0, 0] (l ++ [xE])).2 = 2 := by
    unfold resP
    rw [if_pos hr, if_neg (by rw [show ([0, 0] : List Int).length = 2 from rfl, fits_no]; simp)]
  simp only [e]
  exact p6 (((st.drop 3 rfl).drop 2 rfl).drop 1 rfl) hK

theorem p4 {e5 e6 : Int} (st : Hs [([], h0)] G [rC rb v, oe l sc, ob (List.replicate l.length false) sk, ow [0, 0, 0] sw] h) (hr : rightL (l ++ [xE]) = true) (hl : l.length ≤ 20) (hK : ∀ h', Ext [] h0 h' → K true h') :
    F_salvorlaw35_CrashWrong_4 h0.size K rb (351, 351, 351, 351, e6, e5, sw, sk, sc, ()) h := by
  unfold F_salvorlaw35_CrashWrong_4
  refine sl2 (st.own 3 rfl) ?_
  have lk : (List.replicate l.length false).length = l.length := by simp
  have tail : ∀ (s2 s4 : Sl) (h' : Heap) (As : List Asn), Hs [([], h0)] G (rC rb v :: bothA (oe l sc) (le (l ++ [xE]) s2) :: bothA (ob (List.replicate l.length false) sk) (lb (List.replicate l.length false ++ [false]) s4) :: ow [0, 0, 0] sw :: As) h' →
      callT Try.prog fn_crash_Apply #[(.slice (slR sw 0 2 1).a (slR sw 0 2 1).len (slR sw 0 2 1).cap), (.slice s2.a s2.len s2.cap), (.slice s4.a s4.len s4.cap)] (.tup (.cons .sl (.cons (.int .i64) .nil))) (fun r5 =>
        F_salvorlaw35_CrashWrong_5 h0.size K rb (r5.2.1, 351, 351, 351, 351, e6, ⟨sw.a, sw.len, sw.cap⟩, ⟨sc.a, sc.len, sc.cap⟩, ())) h' := by
    intro s2 s4 h' As st
    refine call_of (Apply_c (l := l ++ [xE]) (k := List.replicate l.length false ++ [false]) (m := [0, 0]) (bothA_r (st.own 1 rfl)) (bothA_r (st.own 2 rfl)) (at2 (st.own 3 rfl)) (by simp; omega) (by decide)) ?_
    rintro _ h3 ⟨s', rfl, n3, x3⟩
    have st := st.ext x3
    have e : (applyC [0, 0] (l ++ [xE]) (List.replicate l.length false ++ [false])).2 = 2 := by
      unfold applyC checkC
      rw [if_pos hr, if_pos (by simp), if_neg (by rw [show ([0, 0] : List Int).length = 2 from rfl, fits_no]; simp)]
    simp only [e]
    obtain ⟨S, hs, hz, hf⟩ := (st.fstB 1 rfl).drop 2 rfl
    have st2 : Hs [([], h0)] G ([rC rb v, oe l sc, ow [0, 0, 0] sw] ++ As) h3 := ⟨S, hs, hz, hf⟩
    have st3 : Hs [([], h0)] (G ++ As) [rC rb v, oe l sc, ow [0, 0, 0] sw] h3 := st2.freezeR
    exact p5 st3 hr hl hK
  constructor
  · refine st.nw fun b1 h1 st => ?_
    simp only [List.cons_append, List.nil_append] at st
    constructor
    · refine Hs.apdB (v := xE) st wideE (by decide) 1 4 rfl rfl (by decide) (leafE _) (by omega) (by decide) rfl fun s2 h2 st => ?_
      simp only [List.set_cons_zero, List.set_cons_succ] at st
      refine st.nw fun b3 h3 st => ?_
      simp only [List.cons_append, List.nil_append] at st
      refine Hs.apdB1 (v := false) st 2 5 rfl rfl (by decide) rfl (by omega) (by decide) rfl fun s4 h4 st => ?_
      simp only [List.set_cons_zero, List.set_cons_succ] at st
      exact tail _ _ _ _ st
    · refine st.nw fun b3 h3 st => ?_
      simp only [List.cons_append, List.nil_append] at st
      refine Hs.apdB (v := xE) st wideE (by decide) 1 4 rfl rfl (by decide) (leafE _) (by omega) (by decide) rfl fun s2 h2 st => ?_
      simp only [List.set_cons_zero, List.set_cons_succ] at st
      refine Hs.apdB1 (v := false) st 2 5 rfl rfl (by decide) rfl (by omega) (by decide) rfl fun s4 h4 st => ?_
      simp only [List.set_cons_zero, List.set_cons_succ] at st
      exact tail _ _ _ _ st
  · refine st.nw fun b1 h1 st => ?_
    refine st.nw fun b3 h3 st => ?_
    simp only [List.cons_append, List.nil_append] at st
    refine Hs.apdB (v := xE) st wideE (by decide) 1 5 rfl rfl (by decide) (leafE _) (by omega) (by decide) rfl fun s2 h2 st => ?_
    simp only [List.set_cons_zero, List.set_cons_succ] at st
    refine Hs.apdB1 (v := false) st 2 4 rfl rfl (by decide) rfl (by omega) (by decide) rfl fun s4 h4 st => ?_
    simp only [List.set_cons_zero, List.set_cons_succ] at st
    exact tail _ _ _ _ st

theorem nil_lb (h : Heap) : At h (lb [] ⟨none, 0, 0⟩) := (osl_nil (t := 0) (enc := Ty.bool.enc) (a := none) 0 h).at.rsl
theorem nil_lw (h : Heap) : At h (lw [] ⟨none, 0, 0⟩) := (osl_nil (t := 0) (enc := u32.enc) (a := none) 0 h).at.rsl

theorem p3 {e1 e2 e3 e4 e5 e6 : Int} (st : Hs [([], h0)] G [rC rb v, oe l sc, ob (List.replicate l.length false) sk, ow [0, 0, 0] sw] h) (hr0 : rightL l = true) (hr : rightL (l ++ [xE]) = true) (hl : l.length ≤ 20) (hK : ∀ h', Ext [] h0 h' → K true h') :
    F_salvorlaw35_CrashWrong_3 h0.size K rb (e6, e5, e4, e3, e2, e1, sw, sk, sc, ()) h := by
  unfold F_salvorlaw35_CrashWrong_3
  have lk : (List.replicate l.length false).length = l.length := by simp
  have ck : ∀ b, checkC l (List.replicate l.length false ++ [b]) = 351 := fun b => check_snoc hr0
  have cne : ¬ ((351 : Int) = 0) := by decide
  refine st.nw fun b0 h1 st => ?_
  simp only [List.cons_append, List.nil_append] at st
  refine Hs.apdB1 (v := true) st 2 4 rfl rfl (by decide) rfl (by omega) (by decide) rfl fun s1 h2 st => ?_
  simp only [List.set_cons_zero, List.set_cons_succ] at st
  refine call_of (Valid_c (l := l) (k := List.replicate l.length false ++ [true]) ((st.own 1 rfl).rsn wideE) (bothA_r (st.own 2 rfl)) (by omega)) ?_
  rintro _ h3 ⟨rfl, x3⟩
  have st := ((st.ext x3).drop 4 rfl).fstB 2 rfl
  simp only [List.set_cons_zero, List.set_cons_succ, List.eraseIdx_cons_succ, List.eraseIdx_cons_zero] at st
  have e1 : (validP l (List.replicate l.length false ++ [true])).2 = 351 := by unfold validP; rw [ck, if_neg cne]
  simp only [e1]
  refine st.nw fun b3 h4 st => ?_
  simp only [List.cons_append, List.nil_append] at st
  refine Hs.apdB1 (v := false) st 2 4 rfl rfl (by decide) rfl (by omega) (by decide) rfl fun s4 h5 st => ?_
  simp only [List.set_cons_zero, List.set_cons_succ] at st
  refine call_of (pairs_c (l := l) (k := List.replicate l.length false ++ [false]) ((st.own 1 rfl).rsn wideE) (bothA_r (st.own 2 rfl)) (by omega)) ?_
  rintro _ h6 ⟨rfl, x6⟩
  have st := ((st.ext x6).drop 4 rfl).fstB 2 rfl
  simp only [List.set_cons_zero, List.set_cons_succ, List.eraseIdx_cons_succ, List.eraseIdx_cons_zero] at st
  have e2 : (validP l (List.replicate l.length false ++ [false])).2 = 351 := by unfold validP; rw [ck, if_neg cne]
  simp only [e2]
  refine st.nw fun b6 h7 st => ?_
  simp only [List.cons_append, List.nil_append] at st
  refine Hs.apdB1 (v := true) st 2 4 rfl rfl (by decide) rfl (by omega) (by decide) rfl fun s7 h8 st => ?_
  simp only [List.set_cons_zero, List.set_cons_succ] at st
  refine call_of (Apply_c (l := l) (k := List.replicate l.length false ++ [true]) (m := []) (s3 := ⟨none, 0, 0⟩) ((st.own 1 rfl).rsn wideE) (bothA_r (st.own 2 rfl)) (nil_lw _) (by omega) (by decide)) ?_
  rintro _ h9 ⟨s9, rfl, n9, x9⟩
  have st := ((st.ext x9).drop 4 rfl).fstB 2 rfl
  simp only [List.set_cons_zero, List.set_cons_succ, List.eraseIdx_cons_succ, List.eraseIdx_cons_zero] at st
  have e3 : (applyC [] l (List.replicate l.length false ++ [true])).2 = 351 := by unfold applyC; rw [ck, if_neg cne]
  simp only [e3]
  refine st.nw fun b9 h10 st => ?_
  simp only [List.cons_append, List.nil_append] at st
  refine Hs.apdB1 (v := true) st 2 4 rfl rfl (by decide) rfl (by omega) (by decide) rfl fun s10 h11 st => ?_
  simp only [List.set_cons_zero, List.set_cons_succ] at st
  refine call_of (drop_c (l := l) (k := List.replicate l.length false ++ [true]) ((st.own 1 rfl).rsn wideE) (bothA_r (st.own 2 rfl)) (by omega)) ?_
  rintro _ h12 ⟨s12, rfl, n12, x12⟩
  have st := ((st.ext x12).drop 4 rfl).fstB 2 rfl
  simp only [List.set_cons_zero, List.set_cons_succ, List.eraseIdx_cons_succ, List.eraseIdx_cons_zero] at st
  have e4 : (dropP l (List.replicate l.length false ++ [true])).2 = 351 := by unfold dropP; rw [ck, if_neg cne]
  simp only [e4]
  exact p4 st hr hl hK

theorem p2 (st : Hs [([], h0)] G [rC rb v, oe l sc, oe bad sb, ob (List.replicate l.length false) sk, ow [0, 0, 0] sw] h) (hb : rightL bad = false) (hbl : bad.length ≤ 100) (hr0 : rightL l = true) (hr : rightL (l ++ [xE]) = true) (hl : l.length ≤ 20) (hK : ∀ h', Ext [] h0 h' → K true h') :
    F_salvorlaw35_CrashWrong_2 h0.size K rb (sw, sk, sb, sc, ()) h := by
  unfold F_salvorlaw35_CrashWrong_2
  have st := (st.imp 2 rfl (A' := le bad sb) fun S h q => osn_rsn wideE q).freeze 2 rfl
  simp only [List.set_cons_zero, List.set_cons_succ, List.eraseIdx_cons_succ, List.eraseIdx_cons_zero] at st
  have aB : ∀ {h' : Heap} {fr : Fr} {G' As : List Asn}, Hs fr (G ++ [le bad sb] ++ G') As h' → At h' (le bad sb) := fun st => st.fzm (List.mem_append_left _ (List.mem_append_right _ (by simp)))
  have aB0 : ∀ {h' : Heap} {fr : Fr} {As : List Asn}, Hs fr (G ++ [le bad sb]) As h' → At h' (le bad sb) := fun st => st.fzm (List.mem_append_right _ (by simp))
  have ck : ∀ k, checkC bad k = 350 := fun k => check_bad hb
  have cne : ¬ ((350 : Int) = 0) := by decide
  have e1 : (validP bad []).2 = 350 := by unfold validP; rw [ck, if_neg cne]
  have e3 : applyC [] bad [] = ([], 350) := by unfold applyC; rw [ck, if_neg cne]
  have e4 : (countP bad).2 = 350 := by unfold countP; rw [hb]; rfl
  have e5 : resP [] bad = ([], 350) := by unfold resP; rw [hb]; rfl
  have e6 : dropP bad [] = ([], 350) := by unfold dropP; rw [ck, if_neg cne]
  refine call_of (Valid_c (l := bad) (k := []) (s := sb) (s2 := ⟨none, 0, 0⟩) (aB0 st) (nil_lb _) (by omega)) ?_
  rintro _ h1 ⟨rfl, x1⟩
  have st := st.ext x1
  refine call_of (pairs_c (l := bad) (k := []) (s := sb) (s2 := ⟨none, 0, 0⟩) (aB0 st) (nil_lb _) (by omega)) ?_
  rintro _ h2 ⟨rfl, x2⟩
  have st := st.ext x2
  refine call_of (Apply_c (l := bad) (k := []) (m := []) (s := sb) (s2 := ⟨none, 0, 0⟩) (s3 := ⟨none, 0, 0⟩) (aB0 st) (nil_lb _) (nil_lw _) (by omega) (by decide)) ?_
  rintro _ h3 ⟨r2, rfl, n3, x3⟩
  have st := st.ext x3
  refine call_of (count_c (l := bad) (s := sb) (aB0 st) (by omega)) ?_
  rintro _ h4 ⟨rfl, x4⟩
  have st := st.ext x4
  refine call_of (results_c (l := bad) (m := []) (s := sb) (s3 := ⟨none, 0, 0⟩) (aB0 st) (nil_lw _) (by omega) (by decide)) ?_
  rintro _ h5 ⟨r4, rfl, n5, x5⟩
  have st := st.ext x5
  refine call_of (drop_c (l := bad) (k := []) (s := sb) (s2 := ⟨none, 0, 0⟩) (aB0 st) (nil_lb _) (by omega)) ?_
  rintro _ h6 ⟨r5, rfl, n6, x6⟩
  have st := st.ext x6
  rw [e3] at n3
  rw [e5] at n5
  rw [e6] at n6
  have l2 : r2.len = 0 := osl_len n3.at
  have l4 : r4.len = 0 := rsg_len n5.at
  have l5 : r5.len = 0 := rsg_len n6.at.rsg
  simp only [e1, e3, e4, e5, e6]
  refine Hs.All (s := sb) st fun b6 h7 st => ?_
  have mA : cA b6 sb ∈ G ++ [le bad sb] ++ [cA b6 sb] := List.mem_append_right _ (by simp)
  have mB : le bad sb ∈ G ++ [le bad sb] ++ [cA b6 sb] := List.mem_append_left _ (List.mem_append_right _ (by simp))
  refine Hs.range st (P := Try.prog) (τ := .cons .val .nil) (fun _ _ => False) (fun pre => pre = []) (all0_hit (l := bad) mA mB (by omega) hb) (fun _ _ _ _ => rfl)
    (fun pre Bs => Bs = [rC rb v, oe l sc, ob (List.replicate l.length false) sk, ow [0, 0, 0] sw]) (fun _ _ => False) rfl ?_ ?_ ?_ (fun i id K hi => by simp at hi)
  · rintro pre x Bs B hb' hf
    exact hf.elim
  · rintro pre Bs h8 _ rfl st
    refine call_of (right_c (l := bad) (s := sb) (st.fzm mB) (by omega)) ?_
    rintro _ h9 ⟨rfl, x9⟩
    have st := st.ext x9
    refine jn_in fun J hJ => brF hb (hJ _ _ ?_)
    rw [l2, l4, l5]
    refine jn_in fun J hJ => brF (by decide) (hJ _ _ ?_)
    refine jn_in fun J hJ => brF (by decide) (hJ _ _ ?_)
    refine jn_in fun J hJ => brF (by decide) (hJ _ _ ?_)
    refine jn_in fun J hJ => brF (by decide) (hJ _ _ ?_)
    refine jn_in fun J hJ => brF (by decide) (hJ _ _ ?_)
    refine jn_in fun J hJ => brF (by decide) (hJ _ _ ?_)
    refine brF (by decide) ?_
    exact p3 st hr0 hr hl hK
  · rintro Bs h8 hf
    exact hf.elim

theorem p1 (st : Hs [([], h0)] G [rC rb v, oe l sc, oe bad sb] h) (hb : rightL bad = false) (hbl : bad.length ≤ 100) (hr0 : rightL l = true) (hr : rightL (l ++ [xE]) = true) (hl : l.length ≤ 20) (hK : ∀ h', Ext [] h0 h' → K true h') :
    F_salvorlaw35_CrashWrong_1 h0.size K rb (sb, sc, ()) h := by
  unfold F_salvorlaw35_CrashWrong_1
  have lc : sc.len = l.length := osn_len (st.own 1 rfl)
  have mk : ∀ {h' : Heap} {G : List Asn} {As : List Asn} {X : Sl → HP}, Hs [([], h0)] G As h' → (∀ s h2, Hs [([], h0)] G (As ++ [ob (List.replicate l.length false) s]) h2 → X s h2) → mks ty_bool 1 1 #[(.bool false)] (sc.len : Int) (sc.len : Int) X h' := fun st hX => by
    refine Hs.mks1 (τ := .bool) (z := false) (n := sc.len) st (by omega) (by decide) fun s h2 st => hX s h2 ?_
    rw [lc] at st; exact st
  have mw : ∀ {h' : Heap} {G : List Asn} {As : List Asn} {X : Sl → HP}, Hs [([], h0)] G As h' → (∀ s h2, Hs [([], h0)] G (As ++ [ow [0, 0, 0] s]) h2 → X s h2) → mks ty_bitword_Word 1 4 #[(.int .u32 (0 : Int))] (3 : Int) (3 : Int) X h' := fun st hX =>
    Hs.mks1 (τ := u32) (z := (0 : Int)) (n := 3) st (by decide) (by decide) fun s h2 st => hX s h2 st
  constructor
  · refine mk st fun s0 h1 st => ?_
    constructor
    · refine mw st fun s1 h2 st => ?_
      simp only [List.cons_append, List.nil_append] at st
      exact p2 st hb hbl hr0 hr hl hK
    · refine mw st fun s1 h2 st => ?_
      simp only [List.cons_append, List.nil_append] at st
      exact p2 st hb hbl hr0 hr hl hK
  · refine mw st fun s1 h1 st => ?_
    refine mk st fun s0 h2 st => ?_
    simp only [List.cons_append, List.nil_append] at st
    have st := ((((st.hd 3 rfl).hd 4 rfl).hd 4 rfl).hd 4 rfl).hd 4 rfl
    simp only [List.eraseIdx_cons_succ, List.eraseIdx_cons_zero] at st
    exact p2 st hb hbl hr0 hr hl hK

end Go.Proofs.S
