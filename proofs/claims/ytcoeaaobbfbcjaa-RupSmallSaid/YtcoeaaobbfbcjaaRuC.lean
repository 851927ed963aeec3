/-
  The package rup: Follow, check, needed, Trim, the search's next step: contracts.
-/
import Derived.Test.YtcoeaaobbfbcjaaRuB
set_option linter.unusedVariables false
set_option linter.unusedSimpArgs false
namespace Go.Proofs.S
open Go Go.Sx Go.Proofs Go.Cl Go.Rp

variable {h : Heap} {c d A us : List Int} {cs ds hs : List (List Int)} {s s2 : Sl} {fr : Fr} {G As : List Asn} {b : Nat}

theorem all_right (h : wrongP cs = false) : ∀ c ∈ cs, rightC c = true := by
  unfold wrongP at h
  rw [Bool.not_eq_false', List.all_eq_true] at h
  exact h
theorem right_rt (h : wrongP cs = false) : ∀ c ∈ cs, ∀ x ∈ c, rt x = true := fun c hc => rightC_rt (all_right h c hc)

theorem follow_more_le (A : List Int) : ∀ cs : List (List Int), (followP A cs).1.length ≤ cs.length := by
  intro cs
  induction cs generalizing A with
  | nil => simp [followP_nil]
  | cons c cs ih =>
    by_cases h2 : (lookP A c).1 = 2
    · rw [followP_fail h2]; simp
    · by_cases h3 : (lookP A c).1 = 3
      · rw [followP_unit (x := (lookP A c).2) (Prod.ext h3 rfl)]
        have := ih (A ++ [(lookP A c).2])
        split <;> simp <;> omega
      · rw [followP_bad h2 h3]; simp

theorem rsg_take (hA : At h (lli cs s)) {n : Nat} (hn : n ≤ cs.length) : At h (lli (cs.take n) (slR s 0 n 1)) := by
  obtain ⟨ps, lp, ho, hrow⟩ := lli_open hA
  have h1 := rsl_sub ho (l := 0) (m := n) (by omega) (by omega)
  rw [List.drop_zero] at h1
  refine rsg_at (ps := ps.take n) (by simp; omega) h1 fun i h1 h2 => ?_
  simp only [List.getElem_take]
  exact hrow i _ _

theorem Follow_c (hA : At h (li A s)) (hB : At h (lli cs s2)) (hl : A.length ≤ 1048576) (hl2 : cs.length ≤ 1048576) :
    callT Try.prog fn_rup_Follow #[.slice s.a s.len s.cap, .slice s2.a s2.len s2.cap] (.tup (.cons .sl (.cons (.int .i64) (.cons .bool (.cons (.int .i64) .nil)))))
      (fun r h' => ∃ s', r = (s', (((followF A cs).2.1 : Nat) : Int), (followF A cs).2.2.1, (followF A cs).2.2.2, ()) ∧ New h.size h' (lo (followF A cs).1 s') ∧ Ext [] h h') h := by
  refine callT_gen fun K hK => S_rup_Follow (a0 := s) (a1 := s2) K ?_
  unfold F_rup_Follow
  refine call_of (wrong_c hB (lli_nil h) hl2 (by simp)) ?_
  rintro _ h1 ⟨rfl, x1⟩
  rw [List.append_nil]
  have st := (Hs.start h [li A s, lli cs s2] (by simp [hA, hB])).ext x1
  have ls := rsg_len hB
  have bad : ∀ {e : Int} {h'} {As : List Asn}, Hs [([], h)] [li A s, lli cs s2] As h' → followF A cs = ([], 0, false, e) → K (⟨none, 0, 0⟩, 0, false, e, ()) h' := by
    intro e h' As st he
    exact hK _ _ ⟨⟨none, 0, 0⟩, by rw [he]; rfl, by rw [he]; exact osl_nil _ _, st.frame (by simp)⟩
  refine assigned_c st (st.fz 0 rfl) (by omega) (fun ho bv h2 st => ?_) (fun ho h2 st => ?_)
  · refine jn_mid (M := fun t h' => t = false ∧ h' = h2) ?_ ?_
    rotate_left
    · intro J hJ
      cases hw : wrongP cs
      · exact brT rfl (hJ _ _ ⟨rfl, rfl⟩)
      · exact brF rfl (hJ _ _ ⟨rfl, rfl⟩)
    rintro _ h3 ⟨rfl, e⟩; subst e
    refine jn_in fun J hJ => brF rfl (hJ _ _ ?_)
    simp only
    refine call_of (many_c (st.fz 1 rfl)) ?_
    rintro _ h4 ⟨rfl, e⟩; subst e
    refine first2_c st fun h5 st => ?_
    cases hw : wrongP cs
    · simp only [Bool.false_eq_true, if_false, ne_eq, not_true]
      by_cases hm : cs.length > 65536
      · rw [if_pos hm]
        refine brT rfl (bad st ?_)
        unfold followF; rw [hw, ho, if_neg (by simp), if_neg (by simp), if_pos hm]
      · rw [if_neg hm]
        refine brF rfl ?_
        have eF : followF A cs = if (followP A cs).2.2.2 ≠ 0 then ([], (followP A cs).2.1, false, (followP A cs).2.2.2) else (A ++ (followP A cs).1, (followP A cs).2.1, (followP A cs).2.2.1, 0) := by
          unfold followF; rw [hw, ho, if_neg (by simp), if_neg (by simp), if_neg hm]
        refine followM_c st 0 rfl ho (by simp) (all_right hw) hl2 fun s9 A' h6 st => ?_
        by_cases he : (followP A cs).2.2.2 = 0
        · rw [he]
          refine brF rfl ?_
          rw [if_neg (by simpa using he)] at eF
          refine cloneL_c st (st.fz 0 rfl) (by omega) fun s10 h7 st => ?_
          have hml := follow_le A cs
          refine st.apdS (τ := i64) 2 rfl (st.own 1 rfl).rsl leaf_int (by
            have : (followP A cs).1.length ≤ cs.length := follow_more_le A cs
            omega) (by decide) fun s11 h8 st => ?_
          have st := (st.drop 1 rfl).drop 0 rfl
          exact hK _ _ ⟨s11, by rw [eF], by rw [eF]; exact st.res (by simp) 0 rfl, st.frame (by simp)⟩
        · refine brT (by simpa using he) ?_
          rw [if_pos he] at eF
          exact hK _ _ ⟨⟨none, 0, 0⟩, by rw [eF], by rw [eF]; exact osl_nil _ _, st.frame (by simp)⟩
    · simp only [if_true]
      refine brT rfl (bad st ?_)
      unfold followF; rw [hw]; rfl
  · refine jn_mid (M := fun t h' => t = !wrongP cs ∧ h' = h2) ?_ ?_
    rotate_left
    · intro J hJ
      cases hw : wrongP cs
      · exact brT rfl (hJ _ _ ⟨by simp [hw], rfl⟩)
      · exact brF rfl (hJ _ _ ⟨by simp [hw], rfl⟩)
    rintro _ h3 ⟨rfl, e⟩; subst e
    refine jn_mid (M := fun w h' => w = ((if wrongP cs then 20 else 80), ()) ∧ h' = h3) ?_ ?_
    rotate_left
    · intro J hJ
      cases hw : wrongP cs
      · exact brT rfl (hJ _ _ ⟨by simp [hw], rfl⟩)
      · exact brF rfl (hJ _ _ ⟨by simp [hw], rfl⟩)
    rintro _ h4 ⟨rfl, e⟩; subst e
    simp only
    refine call_of (many_c (st.fz 1 rfl)) ?_
    rintro _ h5 ⟨rfl, e⟩; subst e
    refine first2_c st fun h6 st => ?_
    cases hw : wrongP cs
    · refine brT rfl (bad st ?_)
      unfold followF; rw [hw, ho]; rfl
    · refine brT rfl (bad st ?_)
      unfold followF; rw [hw]; rfl

theorem check_c (hA : At h (li c s)) (hB : At h (lli cs s2)) (hl : c.length ≤ 1048576) (hl2 : cs.length ≤ 1048576) :
    callT Try.prog fn_rup_check #[.slice s.a s.len s.cap, .slice s2.a s2.len s2.cap] (.tup (.cons .sl (.cons (.int .i64) (.cons (.int .i64) .nil))))
      (fun r h' => ∃ s', r = (s', (((checkP c cs).2.1 : Nat) : Int), (checkP c cs).2.2, ()) ∧ New h.size h' (lo (checkP c cs).1 s') ∧ Ext [] h h') h := by
  refine callT_gen fun K hK => S_rup_check (a0 := s) (a1 := s2) K ?_
  unfold F_rup_check
  have st := Hs.start h [li c s, lli cs s2] (by simp [hA, hB])
  refine st.nw fun b0 h1 st => ?_
  refine call_of (wrong_c (st.fz 1 rfl) (lli_one (st.blk 0 rfl) (st.fz 0 rfl)) hl2 (by simp)) ?_
  rintro _ h2 ⟨rfl, x2⟩
  have st := st.ext x2
  have ew : wrongP (cs ++ [c]) = (wrongP cs || !rightC c) := by
    unfold wrongP; rw [List.all_append, Bool.not_and]; simp
  rw [ew]
  refine call_of (many_c (st.fz 1 rfl)) ?_
  rintro _ h3 ⟨rfl, e⟩; subst e
  refine first2_c st fun h4 st => ?_
  have bad : ∀ {e : Int} {h'} {As : List Asn}, Hs [([], h)] [li c s, lli cs s2] As h' → checkP c cs = ([], 0, e) → K (⟨none, 0, 0⟩, 0, e, ()) h' := by
    intro e h' As st he
    exact hK _ _ ⟨⟨none, 0, 0⟩, by rw [he]; rfl, by rw [he]; exact osl_nil _ _, st.frame (by simp)⟩
  cases hw : (wrongP cs || !rightC c)
  · simp only [Bool.false_eq_true, if_false, ne_eq, not_true]
    rw [Bool.or_eq_false_iff, Bool.not_eq_false'] at hw
    by_cases hm : cs.length > 65536
    · rw [if_pos hm]
      refine brT rfl (bad st ?_)
      unfold checkP; rw [hw.1, hw.2, if_neg (by simp), if_pos hm]
    · rw [if_neg hm]
      refine brF rfl ?_
      refine call_of (Assume_c (st.fz 0 rfl) (by omega)) ?_
      rintro _ h5 ⟨s5, rfl, n5, x5⟩
      have st := st.new x5 n5
      cases ha : alwaysC c
      · have eS : assumeP c = (negs c, false, 0) := by unfold assumeP; rw [hw.2, ha]; rfl
        rw [eS] at st ⊢
        refine brF rfl ?_
        have hno := okA_negs hw.2 ha
        have hnl : (negs c).length ≤ 4096 := by
          unfold negs; rw [List.length_map]; have := nrm_length c; have := rightC_len hw.2; omega
        refine assigned_c st (st.own 1 rfl).rsl (by show (negs c).length ≤ _; omega) (fun ho bv h6 st => ?_) (fun ho => by rw [hno] at ho; cases ho)
        have eC : checkP c cs = ((followP (negs c) cs).1, (followP (negs c) cs).2.1, if (followP (negs c) cs).2.2.2 = 0 ∧ (followP (negs c) cs).2.2.1 = false then 82 else (followP (negs c) cs).2.2.2) := by
          unfold checkP; rw [hw.1, hw.2, if_neg (by simp), if_neg hm, ha, if_neg (by simp)]
        refine followM_c st 2 rfl ho (by simp) (all_right hw.1) hl2 fun s9 A' h7 st => ?_
        have st := ((st.drop 2 rfl).drop 1 rfl).drop 0 rfl
        have fin : ∀ e : Int, e = (if (followP (negs c) cs).2.2.2 = 0 ∧ (followP (negs c) cs).2.2.1 = false then 82 else (followP (negs c) cs).2.2.2) → K (s9, (((followP (negs c) cs).2.1 : Nat) : Int), e, ()) h7 := by
          rintro e rfl
          exact hK _ _ ⟨s9, by rw [eC], by rw [eC]; exact st.res (by simp) 0 rfl, st.frame (by simp)⟩
        refine jn_mid (M := fun t h' => t = decide ((followP (negs c) cs).2.2.2 = 0 ∧ (followP (negs c) cs).2.2.1 = false) ∧ h' = h7) ?_ ?_
        rotate_left
        · intro J hJ
          by_cases he : (followP (negs c) cs).2.2.2 = 0
          · refine brT (by simpa using he) (hJ _ _ ⟨?_, rfl⟩)
            cases hc : (followP (negs c) cs).2.2.1 <;> simp [he, hc]
          · refine brF (by simpa using he) (hJ _ _ ⟨?_, rfl⟩)
            simp [he]
        rintro _ h8 ⟨rfl, e⟩; subst e
        refine jn_in fun J hJ => ?_
        by_cases hc : (followP (negs c) cs).2.2.2 = 0 ∧ (followP (negs c) cs).2.2.1 = false
        · exact brT (decide_eq_true hc) (hJ _ _ (fin _ (by rw [if_pos hc])))
        · exact brF (decide_eq_false hc) (hJ _ _ (fin _ (by rw [if_neg hc])))
      · have eS : assumeP c = ([], true, 0) := by unfold assumeP; rw [hw.2, ha]; rfl
        rw [eS] at st ⊢
        refine brT rfl (bad st ?_)
        unfold checkP; rw [hw.1, hw.2, if_neg (by simp), if_neg hm, ha]; rfl
  · simp only [if_true]
    refine brT rfl (bad st ?_)
    unfold checkP; rw [hw]; rfl

theorem Check_c (hA : At h (li c s)) (hB : At h (lli cs s2)) (hl : c.length ≤ 1048576) (hl2 : cs.length ≤ 1048576) :
    callT Try.prog fn_rup_Check #[.slice s.a s.len s.cap, .slice s2.a s2.len s2.cap] (.tup (.cons (.int .i64) (.cons (.int .i64) .nil)))
      (fun r h' => r = ((((checkP c cs).2.1 : Nat) : Int), (checkP c cs).2.2, ()) ∧ Ext [] h h') h := by
  refine callT_gen fun K hK => S_rup_Check (a0 := s) (a1 := s2) K ?_
  unfold F_rup_Check
  refine call_of (check_c hA hB hl hl2) ?_
  rintro _ h' ⟨s', rfl, _, x⟩
  exact hK _ _ ⟨rfl, x⟩

/-! ### needed -/

theorem set_same {α : Type} {As : List α} {k : Nat} {A : α} (h : As[k]? = some A) : As.set k A = As := by
  obtain ⟨hk, e⟩ := List.getElem?_eq_some_iff.1 h
  subst e; exact List.set_getElem_self hk
abbrev iox (xs : List Int) (s : Sl) : Asn := osl ty_int i64.enc xs s
abbrev nats (L : List Nat) : List Int := L.map fun k : Nat => (k : Int)

def RevTo (xs : List Int) (i : Nat) (ys : List Int) : Prop := ys.length = xs.length ∧ ∀ j, j < xs.length → ys[j]? = if j < i ∨ xs.length - i ≤ j then xs[xs.length - 1 - j]? else xs[j]?

theorem rev_step {xs ys : List Int} {i : Nat} (hi : i < xs.length / 2) (r : RevTo xs i ys) (h1 : i < ys.length) (h2 : xs.length - 1 - i < ys.length) : RevTo xs (i + 1) ((ys.set i ys[xs.length - 1 - i]).set (xs.length - 1 - i) ys[i]) := by
  obtain ⟨hl, hg⟩ := r
  refine ⟨by simp [hl], fun j hj => ?_⟩
  have g1 := hg i (by omega)
  have g2 := hg (xs.length - 1 - i) (by omega)
  rw [if_neg (by omega)] at g1 g2
  by_cases e1 : xs.length - 1 - i = j
  · subst e1
    rw [List.getElem?_set_self (by simpa using h2), if_pos (by omega), ← List.getElem?_eq_getElem h1, g1]
    congr 1; omega
  · rw [List.getElem?_set_ne e1]
    by_cases e2 : i = j
    · subst e2
      rw [List.getElem?_set_self h1, if_pos (by omega), ← List.getElem?_eq_getElem h2, g2]
    · rw [List.getElem?_set_ne e2, hg j hj]
      by_cases h3 : j < i ∨ xs.length - i ≤ j
      · rw [if_pos h3, if_pos (by omega)]
      · rw [if_neg h3, if_neg (by omega)]

theorem rev_done {xs ys : List Int} {i : Nat} (hi : i = xs.length / 2) (r : RevTo xs i ys) : ys = xs.reverse := by
  obtain ⟨hl, hg⟩ := r
  apply List.ext_getElem?
  intro j
  by_cases hj : j < xs.length
  · rw [hg j hj, List.getElem?_reverse hj]
    by_cases h3 : j < i ∨ xs.length - i ≤ j
    · rw [if_pos h3]
    · rw [if_neg h3]; congr 1; omega
  · rw [List.getElem?_eq_none (by omega), List.getElem?_eq_none (by simp; omega)]

theorem reverse_c {xs : List Int} (st : Hs fr G As h) (k : Nat) (hk : As[k]? = some (iox xs s)) (hl : xs.length ≤ 1048576) {K : Unit → HP} (hK : ∀ h', Hs fr G (As.set k (iox xs.reverse s)) h' → K () h') :
    callT Try.prog fn_slices_Reverse_int_int #[.slice s.a s.len s.cap] (.tup .nil) K h := by
  refine S_slices_Reverse_int_int (a0 := s) K ?_
  unfold F_slices_Reverse_int_int
  have ls := osl_len (st.own k hk)
  have hkl : k < As.length := (List.getElem?_eq_some_iff.1 hk).1
  have st : Hs fr G (As.set k (iox xs s)) h := by rw [set_same hk]; exact st
  refine lfp_invh (I := fun m σ h' => ∃ (i : Nat) (ys : List Int), σ = ((xs.length : Int) - 1 - i, (i : Int), ()) ∧ i ≤ xs.length / 2 ∧ m = xs.length - i ∧ RevTo xs i ys ∧ Hs fr G (As.set k (iox ys s)) h')
    ⟨_, 0, xs, by rw [ls, wrap_i64 (by omega) (by omega)]; simp, by omega, rfl, ⟨rfl, fun j hj => by rw [if_neg (by omega)]⟩, st⟩ ?_
  rintro m σ h' X ⟨i, ys, rfl, hi, rfl, hr, st⟩ hX
  simp only
  have hkk : (As.set k (iox ys s))[k]? = some (iox ys s) := by rw [List.getElem?_set_self hkl]
  by_cases hlt : i < xs.length / 2
  · refine brT (decide_eq_true (by omega)) ?_
    have ej : (xs.length : Int) - 1 - i = ((xs.length - 1 - i : Nat) : Int) := by omega
    rw [ej]
    have lY := hr.1
    have h1 : i < ys.length := by omega
    have h2 : xs.length - 1 - i < ys.length := by omega
    refine rdE (τ := i64) (st.own k hkk).rsl h2 ?_
    refine rdE (τ := i64) (st.own k hkk).rsl h1 ?_
    refine st.wrE (τ := i64) k hkk h1 _ fun h2' st => ?_
    have hkk2 : ((As.set k (iox ys s)).set k (osl ty_int i64.enc (ys.set i ys[xs.length - 1 - i]) s))[k]? = some (iox (ys.set i ys[xs.length - 1 - i]) s) := by rw [List.getElem?_set_self (by simpa using hkl)]
    refine st.wrE (τ := i64) k hkk2 (i := xs.length - 1 - i) (by simpa using h2) _ fun h3 st => ?_
    simp only [List.set_set] at st
    rw [show IntKind.wrap .i64 (((xs.length - 1 - i : Nat) : Int) - 1) = (xs.length : Int) - 1 - ((i + 1 : Nat) : Int) by rw [wrap_i64 (by omega) (by omega)]; omega, inc_i (by omega)]
    exact hX _ _ _ ⟨i + 1, _, rfl, by omega, rfl, rev_step hlt hr h1 h2, st⟩ (by omega)
  · refine brF (decide_eq_false (by omega)) ?_
    rw [rev_done (by omega) hr] at st
    exact hK _ st

def rows (hs : List (List Int)) (ps : List Sl) : List Asn := List.zipWith (fun c p => li c p) hs ps
theorem rows_mem {ps : List Sl} {i : Nat} (h1 : i < hs.length) (h2 : i < ps.length) : li hs[i] ps[i] ∈ rows hs ps := by
  unfold rows
  have h3 : i < (List.zipWith (fun c p => li c p) hs ps).length := by simp; omega
  have := List.getElem_mem h3
  rw [List.getElem_zipWith] at this
  exact this
theorem rows_at {ps : List Sl} (hl : ps.length = hs.length) (hr : ∀ i (h1 : i < hs.length) (h2 : i < ps.length), At h (li hs[i] ps[i])) : ∀ A ∈ rows hs ps, At h A := by
  intro A hA
  obtain ⟨i, hi, e⟩ := List.getElem_of_mem hA
  unfold rows at hi e
  rw [List.getElem_zipWith] at e
  simp at hi
  rw [← e]
  exact hr i (by omega) (by omega)

theorem needed_c (hA : At h (lli hs s)) (hB : At h (li us s2)) (hr : ∀ c ∈ hs, rightC c = true) (hl : hs.length ≤ 1048576) (hl2 : us.length ≤ 1048576) :
    callT Try.prog fn_rup_needed #[.slice s.a s.len s.cap, .slice s2.a s2.len s2.cap] .sl (fun s' h' => New h.size h' (iox (nats (neededP hs us)) s') ∧ Ext [] h h') h := by
  refine callT_gen fun K hK => S_rup_needed (a0 := s) (a1 := s2) K ?_
  unfold F_rup_needed
  have ls := rsg_len hA
  have ls2 := rsl_len hB
  obtain ⟨ps, lp, ho, hrow⟩ := lli_open hA
  let GG : List Asn := rsl Ty.sl.enc ps s :: li us s2 :: rows hs ps
  have st : Hs [([], h)] GG [] h := Hs.start h GG (by
    intro A hA'
    simp only [GG, List.mem_cons] at hA'
    rcases hA' with rfl | rfl | hA'
    · exact ho
    · exact hB
    · exact rows_at lp hrow _ hA')
  refine st.mkm .i64 i64 fun bm h1 st => ?_
  let nf : List Int → Int → Option Int := fun N y => if y ∈ N then some 1 else none
  have e0 : (fun _ => none : Int → Option i64.T) = nf [] := by funext y; simp [nf]
  rw [e0] at st
  have st := st.nil ty_int i64.enc none
  have eL : IntKind.wrap .i64 ((s.len : Int) - 1) = (hs.length : Int) - 1 := by rw [ls, wrap_i64 (by omega) (by omega)]
  rw [eL]
  refine lfp_invh (I := fun m σ h' => ∃ (i : Nat) (o : Sl) (N : List Int) (out : List Nat), σ = ((i : Int) - 1, o, ()) ∧ i ≤ hs.length ∧ m = i ∧ out.length + i ≤ hs.length ∧ needGo hs us i N ++ out.reverse = neededP hs us ∧
      Hs [([], h)] GG [mp bm .i64 i64 (nf N), iox (nats out) o] h')
    ⟨_, hs.length, ⟨none, 0, 0⟩, [], [], rfl, Nat.le_refl _, rfl, by simp, by simp [neededP], st⟩ ?_
  rintro m σ h' X ⟨i, o, N, out, rfl, hi, rfl, hol, hg, st⟩ hX
  simp only
  cases m with
  | zero =>
    refine brF (by simp) ?_
    simp only [needGo, List.nil_append] at hg
    refine reverse_c st 1 rfl (by simp; omega) fun h2 st => ?_
    have er : (nats out).reverse = nats (neededP hs us) := by rw [← hg]; simp [nats]
    rw [er] at st
    have st := st.drop 0 rfl
    exact hK _ _ ⟨st.res (by simp) 0 rfl, st.frame (by simp)⟩
  | succ i =>
    rw [show (((i + 1 : Nat) : Int) - 1) = (i : Int) by omega]
    refine brT (decide_eq_true (by omega)) ?_
    simp only [needGo] at hg
    refine jn_in fun J3 hJ3 => ?_
    have next : ∀ (o : Sl) (N : List Int) (out : List Nat) h', out.length + i ≤ hs.length → needGo hs us i N ++ out.reverse = neededP hs us → Hs [([], h)] GG [mp bm .i64 i64 (nf N), iox (nats out) o] h' → J3 (o, ()) h' := by
      intro o N out h' h1 h2 st
      refine hJ3 _ _ ?_
      simp only
      rw [show IntKind.wrap .i64 ((i : Int) - 1) = (i : Int) - 1 from wrap_i64 (by omega) (by omega)]
      exact hX _ _ _ ⟨i, o, N, out, rfl, by omega, rfl, h1, h2, st⟩ (by omega)
    refine jn_mid (M := fun t h'' => t = decide (i < us.length ∧ us.getD i 0 ∉ N) ∧ h'' = h') ?_ ?_
    rotate_left
    · intro J hJ
      by_cases h1 : i < us.length
      · refine brT (by rw [ls2]; exact decide_eq_true (by omega)) ?_
        refine rdE (τ := i64) (st.fz 1 rfl) h1 ?_
        refine mget_ok (z := (0 : Int)) (st.own 0 rfl) (hJ _ _ ⟨?_, rfl⟩)
        rw [getD_lt h1]
        simp only [nf]
        by_cases h2 : us[i] ∈ N
        · rw [if_pos h2, decide_eq_false (by simp [h2])]; rfl
        · rw [if_neg h2, decide_eq_true (by simp [h1, h2])]; rfl
      · refine brF (by rw [ls2]; exact decide_eq_false (by omega)) (hJ _ _ ⟨?_, rfl⟩)
        rw [decide_eq_false (by simp [h1])]
    rintro _ h2 ⟨rfl, e⟩; subst e
    by_cases hc : i < us.length ∧ us.getD i 0 ∉ N
    · rw [if_pos hc] at hg
      exact brT (decide_eq_true hc) (next _ _ _ _ (by omega) hg st)
    · rw [if_neg hc] at hg
      refine brF (decide_eq_false hc) ?_
      refine st.nw fun b7 h3 st => ?_
      refine st.apd 1 2 rfl rfl (by decide) rfl (by simp; omega) (by decide) rfl fun s8 h4 st => ?_
      have st := st.drop 2 rfl
      have hip : i < ps.length := by omega
      refine rdE (τ := .sl) (st.fz 0 rfl) hip ?_
      have hm : li hs[i] ps[i] ∈ GG := List.mem_cons_of_mem _ (List.mem_cons_of_mem _ (rows_mem (show i < hs.length by omega) hip))
      have lq := rsl_len (st.fzm hm)
      have hri := hr _ (List.getElem_mem (show i < hs.length by omega))
      have hcl := rightC_len hri
      refine lfp_invh (I := fun m σ h' => ∃ (j : Nat) (N' : List Int), σ = ((j : Int), ()) ∧ j ≤ hs[i].length ∧ m = hs[i].length - j ∧ N' = N ++ (hs[i].take j).map (fun x => -x) ∧ Hs [([], h)] GG [mp bm .i64 i64 (nf N'), iox (nats out ++ [(i : Int)]) s8] h')
        ⟨_, 0, N, rfl, by omega, rfl, by simp, st⟩ ?_
      rintro m σ h' X2 ⟨j, N', rfl, hj, rfl, eN, st⟩ hX2
      simp only
      by_cases hjl : j < hs[i].length
      · refine brT (decide_eq_true (by rw [lq]; omega)) ?_
        refine rdE (τ := i64) (st.fzm hm) hjl ?_
        refine call_of (lits_Neg_c _) ?_
        rintro _ h5 ⟨rfl, e⟩; subst e
        rw [negL_rt (rightC_rt hri _ (List.getElem_mem hjl)), inc_i (by omega)]
        refine st.mput 0 rfl (v := (1 : Int)) fun h6 st => ?_
        have ef : (fun y => if y = -hs[i][j] then some 1 else nf N' y) = nf (N' ++ [-hs[i][j]]) := by
          funext y
          simp only [nf, List.mem_append, List.mem_singleton]
          by_cases h1 : y = -hs[i][j]
          · simp [h1]
          · simp [h1]
        rw [show (fun y => if y = -hs[i][j] then some (1 : Int) else nf N' y : Int → Option i64.T) = nf (N' ++ [-hs[i][j]]) from ef] at st
        exact hX2 _ _ _ ⟨j + 1, _, rfl, by omega, rfl, by rw [eN, take_lt hjl, List.map_append, List.append_assoc]; rfl, st⟩ (by omega)
      · refine brF (decide_eq_false (by rw [lq]; omega)) ?_
        have : j = hs[i].length := by omega
        subst this
        rw [List.take_length] at eN
        refine next s8 N' (out ++ [i]) _ (by simp; omega) ?_ (by simpa using st)
        rw [eN, List.reverse_append, ← List.append_assoc]
        rw [getD_lt (show i < hs.length by omega)] at hg
        exact hg

theorem Trim_c (hA : At h (li c s)) (hB : At h (lli cs s2)) (hl : c.length ≤ 1048576) (hl2 : cs.length ≤ 1048576) :
    callT Try.prog fn_rup_Trim #[.slice s.a s.len s.cap, .slice s2.a s2.len s2.cap] (.tup (.cons .sl (.cons (.int .i64) .nil)))
      (fun r h' => ∃ s', r = (s', (trimP c cs).2, ()) ∧ New h.size h' (iox (nats (trimP c cs).1) s') ∧ Ext [] h h') h := by
  refine callT_gen fun K hK => S_rup_Trim (a0 := s) (a1 := s2) K ?_
  unfold F_rup_Trim
  refine call_of (check_c hA hB hl hl2) ?_
  rintro _ h1 ⟨s1, rfl, n1, x1⟩
  have st := (Hs.start h [li c s, lli cs s2] (by simp [hA, hB])).new x1 n1
  refine jn_mid (M := fun t h' => t = decide ((checkP c cs).2.2 ≠ 0 ∨ (checkP c cs).2.1 = 0) ∧ h' = h1) ?_ ?_
  rotate_left
  · intro J hJ
    by_cases he : (checkP c cs).2.2 = 0
    · refine brF (by simpa using he) (hJ _ _ ⟨?_, rfl⟩)
      by_cases h0 : (checkP c cs).2.1 = 0
      · rw [decide_eq_true (.inr h0)]; simp [h0]
      · rw [decide_eq_false (by simp [he, h0])]; simpa using h0
    · refine brT (by simpa using he) (hJ _ _ ⟨?_, rfl⟩)
      rw [decide_eq_true (.inl he)]
  rintro _ h2 ⟨rfl, e⟩; subst e
  by_cases hc : (checkP c cs).2.2 ≠ 0 ∨ (checkP c cs).2.1 = 0
  · have eT : trimP c cs = ([], (checkP c cs).2.2) := by unfold trimP; rw [if_pos hc]
    exact brT (decide_eq_true hc) (hK _ _ ⟨⟨none, 0, 0⟩, by rw [eT], by rw [eT]; exact osl_nil _ _, x1⟩)
  · have eT : trimP c cs = (neededP (cs.take (checkP c cs).2.1) (checkP c cs).1, 0) := by unfold trimP; rw [if_neg hc]
    refine brF (decide_eq_false hc) ?_
    simp only [not_or, ne_eq, Decidable.not_not] at hc
    have ls2 := rsg_len (st.fz 1 rfl)
    have hw : wrongP cs = false ∧ rightC c = true ∧ ¬ cs.length > 65536 ∧ alwaysC c = false := by
      unfold checkP at hc
      split at hc
      · simp at hc
      · rename_i h1
        split at hc
        · simp at hc
        · rename_i h2
          split at hc
          · simp at hc
          · rename_i h3
            simp only [Bool.or_eq_true, not_or, Bool.not_eq_true, Bool.not_eq_false'] at h1
            exact ⟨h1.1, by simpa using h1.2, h2, by simpa using h3⟩
    have hnle : (checkP c cs).2.1 ≤ cs.length := by
      have : (checkP c cs).2.1 = (followP (negs c) cs).2.1 := by
        unfold checkP; rw [hw.1, hw.2.1, if_neg (by simp), if_neg hw.2.2.1, hw.2.2.2, if_neg (by simp)]
      rw [this]; exact follow_le _ _
    have hul : (checkP c cs).1.length ≤ cs.length := by
      have : (checkP c cs).1 = (followP (negs c) cs).1 := by
        unfold checkP; rw [hw.1, hw.2.1, if_neg (by simp), if_neg hw.2.2.1, hw.2.2.2, if_neg (by simp)]
      rw [this]; exact follow_more_le _ _
    have hcap : s2.len ≤ s2.cap := by
      obtain ⟨ps, _, ho, _⟩ := lli_open (st.fz 1 rfl)
      exact rsl_cap ho
    refine ⟨by dsimp only; omega, by dsimp only; omega, ?_⟩
    have hsub : At h2 (lli (cs.take (checkP c cs).2.1) (slR s2 0 (checkP c cs).2.1 1)) := rsg_take (st.fz 1 rfl) hnle
    rw [show (((checkP c cs).2.1 : Nat) : Int).toNat = (checkP c cs).2.1 by simp]
    refine call_of (needed_c hsub (st.own 0 rfl).rsl (fun d hd => all_right hw.1 d (List.mem_of_mem_take hd)) (by simp; omega) (by omega)) ?_
    rintro s4 h3 ⟨n4, x4⟩
    exact hK _ _ ⟨s4, by rw [eT], by rw [eT]; exact n4.mono x1.1, x1.nil_trans x4⟩

end Go.Proofs.S
