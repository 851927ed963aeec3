/-
  The package rup: Follow, check, needed, Trim, the search's next step: contracts.
-/
import Derived.Test.YtjkgncibelojnaaGreatRuA
set_option linter.unusedVariables false
set_option linter.unusedSimpArgs false
namespace Go.Proofs.S
open Go Go.Sx Go.Proofs Go.Cl Go.Rp
variable {h : Heap} {c d A us : List Int} {cs ds hs : List (List Int)} {s s2 : Sl} {fr : Fr} {G As : List Asn} {b : Nat}
theorem all_right (h : wrongP cs = false) : ∀ c ∈ cs, rightC c = true := by
  unfold wrongP at h
  rw [Bool.not_eq_false', List.all_eq_true] at h
  exact h
theorem right_rt (h : wrongP cs = false) : ∀ c ∈ cs, ∀ x ∈ c, rt x = true := fun c hc => rightC_rt (all_right h c hc)
theorem set_same {α : Type} {As : List α} {k : Nat} {A : α} (h : As[k]? = some A) : As.set k A = As := by
  obtain ⟨hk, e⟩ := List.getElem?_eq_some_iff.1 h
  subst e; exact List.set_getElem_self hk
abbrev iox (xs : List Int) (s : Sl) : Asn := osl ty_int i64.enc xs s
abbrev nats (L : List Nat) : List Int := L.map fun k : Nat => (k : Int)
def RevTo (xs : List Int) (i : Nat) (ys : List Int) : Prop := ys.length = xs.length ∧ ∀ j, j < xs.length → ys[j]? = if j < i ∨ xs.length - i ≤ j then xs[xs.length - 1 - j]? else xs[j]?
theorem rev_step {xs ys : List Int} {i : Nat} (hi : i < xs.length / 2) (r : RevTo xs i ys) (h1 : i < ys.length) (h2 : xs.length - 1 - i < ys.length) : RevTo xs (i + 1) ((ys.set i ys[xs.length - 1 - i]).set (xs.length - 1 - i) ys[i]) := by
  obtain ⟨hl, hg⟩ := r
  refine ⟨by simp [hl], fun j hj => ?_⟩
  have g1 := hg i (by omega)
  have g2 := hg (xs.length - 1 - i) (by omega)
  rw [if_neg (by omega)] at g1 g2
  by_cases e1 : xs.length - 1 - i = j
  · subst e1
    rw [List.getElem?_set_self (by simpa using h2), if_pos (by omega), ← List.getElem?_eq_getElem h1, g1]
    congr 1; omega
  · rw [List.getElem?_set_ne e1]
    by_cases e2 : i = j
    · subst e2
      rw [List.getElem?_set_self h1, if_pos (by omega), ← List.getElem?_eq_getElem h2, g2]
    · rw [List.getElem?_set_ne e2, hg j hj]
      by_cases h3 : j < i ∨ xs.length - i ≤ j
      · rw [if_pos h3, if_pos (by omega)]
      · rw [if_neg h3, if_neg (by omega)]
theorem rev_done {xs ys : List Int} {i : Nat} (hi : i = xs.length / 2) (r : RevTo xs i ys) : ys = xs.reverse := by
  obtain ⟨hl, hg⟩ := r
  apply List.ext_getElem?
  intro j
  by_cases hj : j < xs.length
  · rw [hg j hj, List.getElem?_reverse hj]
    by_cases h3 : j < i ∨ xs.length - i ≤ j
    · rw [if_pos h3]
    · rw [if_neg h3]; congr 1; omega
  · rw [List.getElem?_eq_none (by omega), List.getElem?_eq_none (by simp; omega)]
theorem reverse_c {xs : List Int} (st : Hs fr G As h) (k : Nat) (hk : As[k]? = some (iox xs s)) (hl : xs.length ≤ 1048576) {K : Unit → HP} (hK : ∀ h', Hs fr G (As.set k (iox xs.reverse s)) h' → K () h') :
    callT Tryz.prog fn_slices_Reverse_int_int #[.slice s.a s.len s.cap] (.tup .nil) K h := by
  refine S_slices_Reverse_int_int (a0 := s) K ?_
  unfold F_slices_Reverse_int_int
  have ls := osl_len (st.own k hk)
  have hkl : k < As.length := (List.getElem?_eq_some_iff.1 hk).1
  have st : Hs fr G (As.set k (iox xs s)) h := by rw [set_same hk]; exact st
  refine lfp_invh (I := fun m σ h' => ∃ (i : Nat) (ys : List Int), σ = ((xs.length : Int) - 1 - i, (i : Int), ()) ∧ i ≤ xs.length / 2 ∧ m = xs.length - i ∧ RevTo xs i ys ∧ Hs fr G (As.set k (iox ys s)) h')
    ⟨_, 0, xs, by rw [ls, wrap_i64 (by omega) (by omega)]; simp, by omega, rfl, ⟨rfl, fun j hj => by rw [if_neg (by omega)]⟩, st⟩ ?_
  rintro m σ h' X ⟨i, ys, rfl, hi, rfl, hr, st⟩ hX
  simp only
  have hkk : (As.set k (iox ys s))[k]? = some (iox ys s) := by rw [List.getElem?_set_self hkl]
  by_cases hlt : i < xs.length / 2
  · refine brT (decide_eq_true (by omega)) ?_
    have ej : (xs.length : Int) - 1 - i = ((xs.length - 1 - i : Nat) : Int) := by omega
    rw [ej]
    have lY := hr.1
    have h1 : i < ys.length := by omega
    have h2 : xs.length - 1 - i < ys.length := by omega
    refine rdE (τ := i64) (st.own k hkk).rsl h2 ?_
    refine rdE (τ := i64) (st.own k hkk).rsl h1 ?_
    refine st.wrE (τ := i64) k hkk h1 _ fun h2' st => ?_
    have hkk2 : ((As.set k (iox ys s)).set k (osl ty_int i64.enc (ys.set i ys[xs.length - 1 - i]) s))[k]? = some (iox (ys.set i ys[xs.length - 1 - i]) s) := by rw [List.getElem?_set_self (by simpa using hkl)]
    refine st.wrE (τ := i64) k hkk2 (i := xs.length - 1 - i) (by simpa using h2) _ fun h3 st => ?_
    simp only [List.set_set] at st
    rw [show IntKind.wrap .i64 (((xs.length - 1 - i : Nat) : Int) - 1) = (xs.length : Int) - 1 - ((i + 1 : Nat) : Int) by rw [wrap_i64 (by omega) (by omega)]; omega, inc_i (by omega)]
    exact hX _ _ _ ⟨i + 1, _, rfl, by omega, rfl, rev_step hlt hr h1 h2, st⟩ (by omega)
  · refine brF (decide_eq_false (by omega)) ?_
    rw [rev_done (by omega) hr] at st
    exact hK _ st
def rows (hs : List (List Int)) (ps : List Sl) : List Asn := List.zipWith (fun c p => li c p) hs ps
theorem rows_mem {ps : List Sl} {i : Nat} (h1 : i < hs.length) (h2 : i < ps.length) : li hs[i] ps[i] ∈ rows hs ps := by
  unfold rows
  have h3 : i < (List.zipWith (fun c p => li c p) hs ps).length := by simp; omega
  have := List.getElem_mem h3
  rw [List.getElem_zipWith] at this
  exact this
theorem rows_at {ps : List Sl} (hl : ps.length = hs.length) (hr : ∀ i (h1 : i < hs.length) (h2 : i < ps.length), At h (li hs[i] ps[i])) : ∀ A ∈ rows hs ps, At h A := by
  intro A hA
  obtain ⟨i, hi, e⟩ := List.getElem_of_mem hA
  unfold rows at hi e
  rw [List.getElem_zipWith] at e
  simp at hi
  rw [← e]
  exact hr i (by omega) (by omega)
theorem needed_c (hA : At h (lli hs s)) (hB : At h (li us s2)) (hr : ∀ c ∈ hs, rightC c = true) (hl : hs.length ≤ 1048576) (hl2 : us.length ≤ 1048576) :
    callT Tryz.prog fn_rup_needed #[.slice s.a s.len s.cap, .slice s2.a s2.len s2.cap] .sl (fun s' h' => New h.size h' (iox (nats (neededP hs us)) s') ∧ Ext [] h h') h := by
  refine callT_gen fun K hK => S_rup_needed (a0 := s) (a1 := s2) K ?_
  unfold F_rup_needed
  have ls := rsg_len hA
  have ls2 := rsl_len hB
  obtain ⟨ps, lp, ho, hrow⟩ := lli_open hA
  let GG : List Asn := rsl Ty.sl.enc ps s :: li us s2 :: rows hs ps
  have st : Hs [([], h)] GG [] h := Hs.start h GG (by
    intro A hA'
    simp only [GG, List.mem_cons] at hA'
    rcases hA' with rfl | rfl | hA'
    · exact ho
    · exact hB
    · exact rows_at lp hrow _ hA')
  refine st.mkm .i64 i64 fun bm h1 st => ?_
  let nf : List Int → Int → Option Int := fun N y => if y ∈ N then some 1 else none
  have e0 : (fun _ => none : Int → Option i64.T) = nf [] := by funext y; simp [nf]
  rw [e0] at st
  have st := st.nil ty_int i64.enc none
  have eL : IntKind.wrap .i64 ((s.len : Int) - 1) = (hs.length : Int) - 1 := by rw [ls, wrap_i64 (by omega) (by omega)]
  rw [eL]
  refine lfp_invh (I := fun m σ h' => ∃ (i : Nat) (o : Sl) (N : List Int) (out : List Nat), σ = ((i : Int) - 1, o, ()) ∧ i ≤ hs.length ∧ m = i ∧ out.length + i ≤ hs.length ∧ needGo hs us i N ++ out.reverse = neededP hs us ∧
      Hs [([], h)] GG [mp bm .i64 i64 (nf N), iox (nats out) o] h')
    ⟨_, hs.length, ⟨none, 0, 0⟩, [], [], rfl, Nat.le_refl _, rfl, by simp, by simp [neededP], st⟩ ?_
  rintro m σ h' X ⟨i, o, N, out, rfl, hi, rfl, hol, hg, st⟩ hX
  simp only
  cases m with
  | zero =>
    refine brF (by simp) ?_
    simp only [needGo, List.nil_append] at hg
    refine reverse_c st 1 rfl (by simp; omega) fun h2 st => ?_
    have er : (nats out).reverse = nats (neededP hs us) := by rw [← hg]; simp [nats]
    rw [er] at st
    have st := st.drop 0 rfl
    exact hK _ _ ⟨st.res (by simp) 0 rfl, st.frame (by simp)⟩
  | succ i =>
    rw [show (((i + 1 : Nat) : Int) - 1) = (i : Int) by omega]
    refine brT (decide_eq_true (by omega)) ?_
    simp only [needGo] at hg
    refine jn_in fun J3 hJ3 => ?_
    have next : ∀ (o : Sl) (N : List Int) (out : List Nat) h', out.length + i ≤ hs.length → needGo hs us i N ++ out.reverse = neededP hs us → Hs [([], h)] GG [mp bm .i64 i64 (nf N), iox (nats out) o] h' → J3 (o, ()) h' := by
      intro o N out h' h1 h2 st
      refine hJ3 _ _ ?_
      simp only
      rw [show IntKind.wrap .i64 ((i : Int) - 1) = (i : Int) - 1 from wrap_i64 (by omega) (by omega)]
      exact hX _ _ _ ⟨i, o, N, out, rfl, by omega, rfl, h1, h2, st⟩ (by omega)
    refine jn_mid (M := fun t h'' => t = decide (i < us.length ∧ us.getD i 0 ∉ N) ∧ h'' = h') ?_ ?_
    rotate_left
    · intro J hJ
      by_cases h1 : i < us.length
      · refine brT (by rw [ls2]; exact decide_eq_true (by omega)) ?_
        refine rdE (τ := i64) (st.fz 1 rfl) h1 ?_
        refine mget_ok (z := (0 : Int)) (st.own 0 rfl) (hJ _ _ ⟨?_, rfl⟩)
        rw [getD_lt h1]
        simp only [nf]
        by_cases h2 : us[i] ∈ N
        · rw [if_pos h2, decide_eq_false (by simp [h2])]; rfl
        · rw [if_neg h2, decide_eq_true (by simp [h1, h2])]; rfl
      · refine brF (by rw [ls2]; exact decide_eq_false (by omega)) (hJ _ _ ⟨?_, rfl⟩)
        rw [decide_eq_false (by simp [h1])]
    rintro _ h2 ⟨rfl, e⟩; subst e
    by_cases hc : i < us.length ∧ us.getD i 0 ∉ N
    · rw [if_pos hc] at hg
      exact brT (decide_eq_true hc) (next _ _ _ _ (by omega) hg st)
    · rw [if_neg hc] at hg
      refine brF (decide_eq_false hc) ?_
      refine st.nw fun b7 h3 st => ?_
      refine st.apd 1 2 rfl rfl (by decide) rfl (by simp; omega) (by decide) rfl fun s8 h4 st => ?_
      have st := st.drop 2 rfl
      have hip : i < ps.length := by omega
      refine rdE (τ := .sl) (st.fz 0 rfl) hip ?_
      have hm : li hs[i] ps[i] ∈ GG := List.mem_cons_of_mem _ (List.mem_cons_of_mem _ (rows_mem (show i < hs.length by omega) hip))
      have lq := rsl_len (st.fzm hm)
      have hri := hr _ (List.getElem_mem (show i < hs.length by omega))
      have hcl := rightC_len hri
      refine lfp_invh (I := fun m σ h' => ∃ (j : Nat) (N' : List Int), σ = ((j : Int), ()) ∧ j ≤ hs[i].length ∧ m = hs[i].length - j ∧ N' = N ++ (hs[i].take j).map (fun x => -x) ∧ Hs [([], h)] GG [mp bm .i64 i64 (nf N'), iox (nats out ++ [(i : Int)]) s8] h')
        ⟨_, 0, N, rfl, by omega, rfl, by simp, st⟩ ?_
      rintro m σ h' X2 ⟨j, N', rfl, hj, rfl, eN, st⟩ hX2
      simp only
      by_cases hjl : j < hs[i].length
      · refine brT (decide_eq_true (by rw [lq]; omega)) ?_
        refine rdE (τ := i64) (st.fzm hm) hjl ?_
        refine call_of (lits_Neg_c _) ?_
        rintro _ h5 ⟨rfl, e⟩; subst e
        rw [negL_rt (rightC_rt hri _ (List.getElem_mem hjl)), inc_i (by omega)]
        refine st.mput 0 rfl (v := (1 : Int)) fun h6 st => ?_
        have ef : (fun y => if y = -hs[i][j] then some 1 else nf N' y) = nf (N' ++ [-hs[i][j]]) := by
          funext y
          simp only [nf, List.mem_append, List.mem_singleton]
          by_cases h1 : y = -hs[i][j]
          · simp [h1]
          · simp [h1]
        rw [show (fun y => if y = -hs[i][j] then some (1 : Int) else nf N' y : Int → Option i64.T) = nf (N' ++ [-hs[i][j]]) from ef] at st
        exact hX2 _ _ _ ⟨j + 1, _, rfl, by omega, rfl, by rw [eN, take_lt hjl, List.map_append, List.append_assoc]; rfl, st⟩ (by omega)
      · refine brF (decide_eq_false (by rw [lq]; omega)) ?_
        have : j = hs[i].length := by omega
        subst this
        rw [List.take_length] at eN
        refine next s8 N' (out ++ [i]) _ (by simp; omega) ?_ (by simpa using st)
        rw [eN, List.reverse_append, ← List.append_assoc]
        rw [getD_lt (show i < hs.length by omega)] at hg
        exact hg
end Go.Proofs.S
namespace Go.Proofs.S
open Go Go.Sx Go.Proofs Go.Cl Go.Rp
variable {h : Heap} {c d A us : List Int} {cs ds hs : List (List Int)} {s s2 : Sl} {fr : Fr} {G As : List Asn} {b : Nat}
theorem hitG {S : List Nat} : ∀ (GG : List Asn), (∀ C ∈ GG, C ∈ G) → FzOk G S h → ∃ F : List Nat, (∀ b ∈ F, b < h.size ∧ b ∉ S) ∧ ∀ h1, Ext [] h h1 → ∀ C ∈ GG, ∃ SC, C.P SC h1 ∧ ∀ b ∈ SC, b ∈ F
  | [], _, _ => ⟨[], by simp, by simp⟩
  | C :: GG, hsub, hz => by
    obtain ⟨F, hF, hall⟩ := hitG GG (fun C hC => hsub C (List.mem_cons_of_mem _ hC)) hz
    obtain ⟨S1, p1, d1⟩ := hz C (hsub C (by simp))
    refine ⟨S1 ++ F, fun b hb => (List.mem_append.1 hb).elim (fun k => ⟨At.lt p1 b k, d1 b k⟩) (hF b), fun h1 x D hD => ?_⟩
    rcases List.mem_cons.1 hD with rfl | hD
    · exact ⟨S1, Asn.ext p1 x (by simp), fun b hb => List.mem_append_left _ hb⟩
    · obtain ⟨SC, p, q⟩ := hall h1 x D hD
      exact ⟨SC, p, fun b hb => List.mem_append_right _ (q b hb)⟩
def mvGo (A : List Int) (kd : Int) : List (List Int) → Nat → List (Int × Int × Unit)
  | [], _ => []
  | c :: cs, i => if (lookP A c).1 = kd then ((i : Int), (lookP A c).2, ()) :: mvGo A kd cs (i + 1) else mvGo A kd cs (i + 1)
abbrev mvNx (L : List (Int × Int × Unit)) (pre : List (Int × Int × Unit)) (x : Int × Int × Unit) : Prop := ∃ r, L = pre ++ x :: r
abbrev mvFin (L pre : List (Int × Int × Unit)) : Prop := pre = L
theorem mvGo_head {kd : Int} : ∀ (cs : List (List Int)) (i : Nat), (mvGo A kd cs i).head? = (cs.findIdx? fun c => (lookP A c).1 == kd).map fun j => (((i + j : Nat) : Int), (lookP A (cs.getD j [])).2, ())
  | [], i => rfl
  | c :: cs, i => by
    simp only [mvGo, List.findIdx?_cons]
    by_cases hk : (lookP A c).1 = kd
    · rw [if_pos hk]; simp [hk]
    · rw [if_neg hk, mvGo_head cs (i + 1)]
      have : ((lookP A c).1 == kd) = false := by simpa using hk
      rw [this]
      simp only [Bool.false_eq_true, if_false, Option.map_map]
      congr 1
      funext j
      simp only [Function.comp]
      rw [show i + 1 + j = i + (j + 1) by omega]
      simp
abbrev mvV (b0 b1 b2 : Nat) : Value := .func (.func fn_rup_values_moving_1) #[] #[.pointer (some ⟨b1, 0, none⟩), .pointer (some ⟨b0, 0, none⟩), .pointer (some ⟨b2, 0, none⟩)]
abbrev mvG (b0 b1 b2 b : Nat) (A : List Int) (cs : List (List Int)) (s : Sl) (kd : Int) : List Asn :=
  [cl b1 ty_sl_clauses_Clause [.slice s.a s.len s.cap], cl b0 ty_rup_values [.map (some b)], cl b2 ty_uint8 [.int .u8 kd], vals b A, lli cs s]
theorem moving_iter {b0 b1 b2 : Nat} {kd : Int} {F : List Nat} (hG : ∀ C ∈ mvG b0 b1 b2 b A cs s kd, ∃ SC, C.P SC h ∧ ∀ b ∈ SC, b ∈ F) (hF : ∀ b ∈ F, b < h.size) (ho : okA A = true)
    (hr : ∀ c ∈ cs, rightC c = true) (hl : cs.length ≤ 1048576) :
    IterSpec Tryz.prog (.cons i64 (.cons i64 .nil)) (mvV b0 b1 b2) h (mvNx (mvGo A kd cs 0)) (mvFin (mvGo A kd cs 0)) F [] := by
  refine iter_of hG hF ?_
  intro At0 D B0 yl c it K hfin hD
  refine callF_func (S_rup_values_moving_1 (a0 := yl) (c0 := ⟨b1, 0, none⟩) (c1 := ⟨b0, 0, none⟩) (c2 := ⟨b2, 0, none⟩) K ?_)
  unfold F_rup_values_moving_1
  obtain ⟨S, st, close⟩ := it.open c
  rw [ld_sl (i := 0) (st.fblk 0 rfl) rfl]
  clear st close
  refine lfp_invh (I := fun μ σ h' => ∃ (i : Nat) (pre : List (Int × Int × Unit)) (B : List Nat), σ = ((i : Int), ()) ∧ i ≤ cs.length ∧ pre ++ mvGo A kd (cs.drop i) i = mvGo A kd cs 0 ∧ It h F At0 (mvG b0 b1 b2 b A cs s kd) [] pre B h' ∧ μ = cs.length - i)
    ⟨_, 0, [], B0, rfl, by omega, by simp, it, rfl⟩ ?_
  rintro μ σ h' X ⟨i, pre, B, rfl, hi, hp, it, rfl⟩ hX
  simp only
  obtain ⟨S, st, close⟩ := it.open c
  have ls := rsg_len (st.fz 4 rfl)
  by_cases hlt : i < cs.length
  · refine brT (by rw [ls]; exact decide_eq_true (by omega)) ?_
    rw [List.drop_eq_getElem_cons hlt] at hp
    simp only [mvGo] at hp
    refine rdG (st.fz 4 rfl) hlt fun p hrow => ?_
    rw [ld_val (i := 0) (st.fblk 1 rfl) rfl]
    have hri := hr _ (List.getElem_mem hlt)
    refine call_of (look_c (st.fz 3 rfl) ho hrow (rightC_rt hri) (by have := rightC_len hri; omega)) ?_
    rintro _ h2 ⟨rfl, e⟩; subst e
    rw [ld_int (i := 0) (st.fblk 2 rfl) rfl]
    refine jn_in fun J hJ => ?_
    by_cases hk : (lookP A cs[i]).1 = kd
    · rw [if_pos hk] at hp
      refine brT (by simpa using hk) ?_
      refine It.yield (τ := .cons i64 (.cons i64 .nil)) c it (x := ((i : Int), (lookP A cs[i]).2, ())) ⟨_, hp.symm⟩ (fun B' h3 it => ?_) (fun B' h3 hd => ?_)
      · refine hJ _ _ (brF rfl ?_)
        rw [inc_i (by omega)]
        exact hX _ _ _ ⟨i + 1, _, B', rfl, by omega, by rw [List.append_assoc]; exact hp, it, rfl⟩ (by omega)
      · exact hJ _ _ (brT rfl (hD B' h3 hd))
    · rw [if_neg hk] at hp
      refine brF (by simpa using hk) (hJ _ _ (brF rfl ?_))
      rw [inc_i (by omega)]
      exact hX _ _ _ ⟨i + 1, pre, B, rfl, by omega, hp, it, rfl⟩ (by omega)
  · refine brF (by rw [ls]; exact decide_eq_false (by omega)) ?_
    rw [List.drop_eq_nil_of_le (by omega)] at hp
    simp only [mvGo, List.append_nil] at hp
    exact hfin pre B h' hp it.1
def nextR (A : List Int) (l : List (List Int)) : Int × Int := match nextP A l with
  | some (i, x) => ((i : Int), x)
  | none => (-1, 0)
theorem moving_range (st : Hs fr G As h) {b0 b1 b2 : Nat} {kd : Int} (hm : ∀ C ∈ mvG b0 b1 b2 b A cs s kd, C ∈ G) (ho : okA A = true) (hr : ∀ c ∈ cs, rightC c = true) (hl : cs.length ≤ 1048576) :
    ∀ S, FzOk G S h → FrOk fr S h → ∃ F, (∀ b ∈ F, b < h.size ∧ b ∉ S) ∧ ∀ h1, NewL h h1 → IterSpec Tryz.prog (.cons i64 (.cons i64 .nil)) (mvV b0 b1 b2) h1 (mvNx (mvGo A kd cs 0)) (mvFin (mvGo A kd cs 0)) F [] := by
  intro S hz _
  obtain ⟨F, hF, hall⟩ := hitG (mvG b0 b1 b2 b A cs s kd) hm hz
  exact ⟨F, hF, fun h1 hn => moving_iter (hall h1 hn.1) (fun b hb => Nat.lt_of_lt_of_le (hF b hb).1 hn.1.1) ho hr hl⟩
theorem next_c (hV : At h (vals b A)) (hA : At h (lli cs s)) (ho : okA A = true) (hr : ∀ c ∈ cs, rightC c = true) (hl : cs.length ≤ 1048576) :
    callT Tryz.prog fn_rup_values_next #[.map (some b), .slice s.a s.len s.cap] (.tup (.cons i64 (.cons i64 .nil))) (fun r h' => r = ((nextR A cs).1, (nextR A cs).2, ()) ∧ Ext [] h h') h := by
  refine callT_gen fun K hK => S_rup_values_next (a0 := .map (some b)) (a1 := s) K ?_
  unfold F_rup_values_next
  have st := Hs.start h [vals b A, lli cs s] (by simp [hV, hA])
  refine st.nw fun b0 h1 st => ?_
  refine st.nw fun b1 h2 st => ?_
  refine st.nw fun b2 h3 st => ?_
  let kinds : List Int := [2, 3]
  refine lfp_invh (I := fun μ σ h' => ∃ (i : Nat) (G' : List Asn), σ = ((i : Int), ()) ∧ i ≤ 2 ∧ (∀ j < i, ∀ c ∈ cs, (lookP A c).1 ≠ kinds.getD j 0) ∧ μ = 2 - i ∧
      Hs [([], h)] ([vals b A, lli cs s] ++ G') [cl b0 ty_int [.int .i64 0], cl b1 ty_lits_Lit [.int .i64 0], cl b2 ty_uint8 [.int .u8 2, .int .u8 3]] h')
    ⟨_, 0, [], rfl, by omega, by simp, rfl, st⟩ ?_
  rintro μ σ h' X ⟨i, G', rfl, hi, hno, rfl, st⟩ hX
  simp only
  by_cases hlt : i < 2
  · refine brT (decide_eq_true (by omega)) ?_
    have hk : ∃ kd : Int, kinds.getD i 0 = kd ∧ [Value.int .u8 2, .int .u8 3][i]? = some (.int .u8 kd) ∧ (i = 0 ∧ kd = 2 ∨ i = 1 ∧ kd = 3) := by
      match i, hlt with
      | 0, _ => exact ⟨2, rfl, rfl, .inl ⟨rfl, rfl⟩⟩
      | 1, _ => exact ⟨3, rfl, rfl, .inr ⟨rfl, rfl⟩⟩
    obtain ⟨kd, ek, ec, hik⟩ := hk
    rw [sx_ok (by omega) (by omega), addr_add, show 0 + ((i : Int)).toNat * 1 = i by simp, st.ldi 2 i rfl ec]
    refine S_rup_values_moving (a0 := .map (some b)) (a1 := s) (a2 := kd) _ ?_
    unfold F_rup_values_moving
    refine st.nw fun c0 h4 st => ?_
    refine st.nw fun c1 h5 st => ?_
    refine st.nw fun c2 h6 st => ?_
    have st := ((st.freeze 3 rfl).freeze 3 rfl).freeze 3 rfl
    simp only [List.append_assoc, List.cons_append, List.nil_append, List.eraseIdx_cons_succ, List.eraseIdx_cons_zero] at st
    have hm : ∀ C ∈ mvG c0 c1 c2 b A cs s kd, C ∈ vals b A :: lli cs s :: (G' ++ [cl c0 ty_rup_values [.map (some b)], cl c1 ty_sl_clauses_Clause [.slice s.a s.len s.cap], cl c2 ty_uint8 [.int .u8 kd]]) := by
      intro C hC
      simp only [mvG, List.mem_cons, List.not_mem_nil, or_false] at hC
      rcases hC with rfl | rfl | rfl | rfl | rfl <;> simp
    refine st.range (P := Tryz.prog) (τ := .cons i64 (.cons i64 .nil)) (mvNx (mvGo A kd cs 0)) (mvFin (mvGo A kd cs 0)) (moving_range st hm ho hr hl) (fun _ _ _ _ => rfl)
      (fun pre Bs => pre = [] ∧ Bs = [cl b0 ty_int [.int .i64 0], cl b1 ty_lits_Lit [.int .i64 0], cl b2 ty_uint8 [.int .u8 2, .int .u8 3]])
      (fun j Bs => j = .ret ∧ ∃ x, (mvGo A kd cs 0).head? = some x ∧ Bs = [cl b0 ty_int [.int .i64 x.1], cl b1 ty_lits_Lit [.int .i64 x.2.1], cl b2 ty_uint8 [.int .u8 2, .int .u8 3]])
      ⟨rfl, rfl⟩ ?_ ?_ ?_ ?_
    · rintro pre x Bs B hb ⟨r, hr2⟩ ⟨rfl, rfl⟩ st next jump hnext hjump
      refine st.st1 0 0 rfl (by simp) fun h7 st => ?_
      refine st.st1 1 0 rfl (by simp) fun h8 st => ?_
      exact hjump .ret _ _ ⟨rfl, x, by rw [hr2]; rfl, rfl⟩ st
    · rintro pre Bs h7 hfi ⟨rfl, rfl⟩ st
      have hnone : (mvGo A kd cs 0).head? = none := by rw [← show [] = mvGo A kd cs 0 from hfi]; rfl
      rw [mvGo_head, Option.map_eq_none_iff, List.findIdx?_eq_none_iff] at hnone
      rw [inc_i (by omega)]
      refine hX _ _ _ ⟨i + 1, _, rfl, by omega, fun j hj c hc => ?_, rfl, st⟩ (by omega)
      rcases Nat.lt_succ_iff_lt_or_eq.1 hj with h8 | rfl
      · exact hno j h8 c hc
      · rw [ek]; simpa using hnone c hc
    · rintro Bs h7 ⟨_, x, hx, rfl⟩ st
      refine fun h8 hm => ?_
      have st := st.marked hm
      rw [st.ldi 0 0 rfl rfl, st.ldi 1 0 rfl rfl]
      refine hK _ _ ⟨?_, st.frame (by simp)⟩
      rw [mvGo_head, Option.map_eq_some_iff] at hx
      obtain ⟨j, hj, rfl⟩ := hx
      rw [Nat.zero_add]
      rcases hik with ⟨rfl, rfl⟩ | ⟨rfl, rfl⟩
      · have e : nextP A cs = some (j, 0) := by unfold nextP; rw [hj]
        have hl2 : (lookP A (cs.getD j [])).2 = 0 := by
          obtain ⟨hlj, h1, _⟩ := List.findIdx?_eq_some_iff_getElem.1 hj
          refine look_snd ?_
          rw [getD_lt hlj, show (lookP A cs[j]).1 = 2 by simpa using h1]; decide
        unfold nextR; rw [e, hl2]
      · have e : nextP A cs = some (j, (lookP A (cs.getD j [])).2) := by
          unfold nextP
          rw [List.findIdx?_eq_none_iff.2 (fun c hc => by have h0 : (lookP A c).1 ≠ 2 := hno 0 (by omega) c hc; simpa using h0), hj]; rfl
        unfold nextR; rw [e]
    · intro i id K hi; simp at hi
  · refine brF (decide_eq_false (by omega)) ?_
    have : i = 2 := by omega
    subst this
    refine st.st1 0 0 rfl (by simp) fun h7 st => ?_
    refine st.st1 1 0 rfl (by simp) fun h8 st => ?_
    refine fun h9 hm => ?_
    have st := st.marked hm
    rw [st.ldi 0 0 rfl rfl, st.ldi 1 0 rfl rfl]
    refine hK _ _ ⟨?_, st.frame (by simp)⟩
    have e : nextP A cs = none := by
      unfold nextP
      rw [List.findIdx?_eq_none_iff.2 (fun c hc => by have h0 : (lookP A c).1 ≠ 2 := hno 0 (by omega) c hc; simpa using h0), List.findIdx?_eq_none_iff.2 (fun c hc => by have h0 : (lookP A c).1 ≠ 3 := hno 1 (by omega) c hc; simpa using h0)]; rfl
    unfold nextR; rw [e]
end Go.Proofs.S
