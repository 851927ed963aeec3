/-
  The package crash: All, Results, Drop: contracts.
-/
import Derived.Test.YtchedlkmgahicaaCrC
import Derived.Test.YtchedlkmgahicaaSxSg
set_option linter.unusedVariables false
set_option linter.unusedSimpArgs false
namespace Go.Proofs.S
open Go Go.Sx Go.Proofs Go.Cr Go.Cl

variable {h : Heap} {l : List Ent} {k : List Bool} {m : List Int} {s s2 s3 : Sl} {fr : Fr} {G As : List Asn}

def allL (l : List Ent) : List (List Bool) := if rightL l then valids l else []
abbrev allNx (l : List Ent) (pre : List (Sl × Unit)) (x : Sl × Unit) : Prop := pre.length < (allL l).length
abbrev allGf (l : List Ent) (pre : List (Sl × Unit)) (x : Sl × Unit) : Asn := ob ((allL l).getD pre.length []) x.1
abbrev allFin (l : List Ent) (pre : List (Sl × Unit)) : Prop := pre.length = (allL l).length
abbrev allV (b : Nat) : Value := .func (.func fn_crash_All_1) #[] #[.pointer (some ⟨b, 0, none⟩)]
abbrev cA (b : Nat) (s : Sl) : Asn := cl b ty_sl_disk_Entry [.slice s.a s.len s.cap]

theorem Hs.All (st : Hs fr G As h) {K : Value → HP} (hK : ∀ b h', Hs fr (G ++ [cA b s]) As h' → K (allV b) h') : callT Try.prog fn_crash_All #[.slice s.a s.len s.cap] .val K h := by
  refine S_crash_All (a0 := s) K ?_
  unfold F_crash_All
  refine st.nw fun b h1 st => ?_
  have st := st.freeze As.length (lastA _ _)
  rw [List.eraseIdx_append_of_length_le (Nat.le_refl _), Nat.sub_self, List.eraseIdx_cons_zero, List.append_nil] at st
  exact hK b _ st

theorem all_iter {b : Nat} {F : List Nat} (hG : ∀ C ∈ [cA b s, le l s], ∃ SC, C.P SC h ∧ ∀ b ∈ SC, b ∈ F) (hF : ∀ b ∈ F, b < h.size) (hl : l.length ≤ 1099511627776) :
    IterG Try.prog (.cons .sl .nil) (allV b) h (fun pre x h2 N => allNx l pre x ∧ (allGf l pre x).P N h2) (allFin l) F [] := by
  refine iter_of hG hF ?_
  intro A D B0 yl c it K hfin hD
  refine callF_func (S_crash_All_1 (a0 := yl) (c0 := ⟨b, 0, none⟩) K ?_)
  unfold F_crash_All_1
  obtain ⟨S, st, close⟩ := it.open c
  rw [ld_sl (i := 0) (st.fblk 0 rfl) rfl]
  refine call_of (right_c (st.fz 1 rfl) hl) ?_
  rintro _ h1 ⟨rfl, x1⟩
  have st := st.ext x1
  cases hr : rightL l with
  | false =>
    try simp only [Bool.not_false, brB_true]
    exact hfin [] B0 _ (show (0 : Nat) = (allL l).length by simp [allL, hr]) (close _ _ st).1
  | true =>
    simp only [Bool.not_true, brB_false]
    have hm := right_mono hr
    have eL : allL l = valids l := by simp [allL, hr]
    rw [ld_sl (i := 0) (st.fblk 0 rfl) rfl, rsn_len (st.fz 1 rfl)]
    refine Hs.mks1 (τ := .bool) (z := false) st (by omega) (by decide) fun s3 h2 st => ?_
    have it := close _ _ st
    obtain ⟨post0, hv0⟩ : ∃ post, valids l = List.replicate l.length false :: post := by
      have := valids_head l
      cases hv : valids l with
      | nil => rw [hv] at this; cases this
      | cons c r => rw [hv] at this; simp only [List.head?_cons, Option.some.injEq] at this; exact ⟨r, by rw [this]⟩
    clear st close
    refine lfp_invh (I := fun μ σ h' => ∃ (preL post : List (List Bool)) (k : List Bool) (pre : List (Sl × Unit)) (B : List Nat), valids l = preL ++ k :: post ∧ pre.length = preL.length ∧ It h F A [cA b s, le l s] [ob k s3] pre B h' ∧ μ = post.length)
      ⟨_, [], post0, _, [], B0, hv0, rfl, it, rfl⟩ ?_
    rintro μ σ h' X ⟨preL, post, k, pre, B, hv, hp, it, em⟩ hX
    try simp only
    have hin : k ∈ valids l := by rw [hv]; simp
    obtain ⟨hk, hvk⟩ := mem_valids.1 hin
    have hget : (allL l).getD pre.length [] = k := by
      rw [eL, hv, hp, List.getD_eq_getElem?_getD, List.getElem?_append_right (Nat.le_refl _)]; simp
    have hlt : pre.length < (allL l).length := by rw [eL, hv, hp]; simp
    obtain ⟨S, st, close⟩ := it.open c
    refine Hs.clone_bool st (st.own 0 rfl).rsl (by omega) fun r6 h3 st => ?_
    have it := close _ _ st
    refine it.give c (x := (r6, ())) 1 rfl (fun N hN => ⟨hlt, ?_⟩) (fun B' h4 it => ?_) (fun B' h4 hd => hD B' h4 hd)
    · show (ob ((allL l).getD pre.length []) r6).P N h3
      rw [hget]; exact hN
    · simp only [Bool.not_true, brB_false]
      obtain ⟨S, st, close⟩ := it.open c
      rw [ld_sl (i := 0) (st.fblk 0 rfl) rfl]
      have hnx := next_split hm hv
      refine Hs.next st 1 rfl hl hm hk 0 rfl (fun h5 hn st => ?_) (fun i h5 hn st => ?_)
      · simp only [Bool.not_false, brB_true]
        rw [hn] at hnx
        have hp0 : post = [] := by cases post with | nil => rfl | cons => simp at hnx
        refine hfin _ B' _ ?_ (close _ _ st).1
        show (pre ++ [(r6, ())]).length = (allL l).length
        rw [eL, hv, hp0]; simp [hp]
      · simp only [Bool.not_true, brB_false]
        rw [hn] at hnx
        cases post with
        | nil => simp at hnx
        | cons d post =>
          simp only [Option.map_some, List.head?_cons, Option.some.injEq] at hnx
          rw [hnx] at st
          refine hX _ _ _ ⟨preL ++ [k], post, d, pre ++ [(r6, ())], B', by rw [hv]; simp, by simp [hp], close _ _ st, rfl⟩ ?_
          rw [em]; simp

theorem all_hit {b : Nat} (gb gl : Nat) (hgb : G[gb]? = some (cA b s)) (hgl : G[gl]? = some (le l s)) (hl : l.length ≤ 1099511627776) :
    ∀ S, FzOk G S h → FrOk fr S h → ∃ F, (∀ b ∈ F, b < h.size ∧ b ∉ S) ∧ ∀ h1, NewL h h1 → IterG Try.prog (.cons .sl .nil) (allV b) h1 (fun pre x h2 N => allNx l pre x ∧ (allGf l pre x).P N h2) (allFin l) F [] := by
  intro S hz _
  obtain ⟨S1, p1, d1⟩ := hz _ (List.mem_of_getElem? hgb)
  obtain ⟨S2, p2, d2⟩ := hz _ (List.mem_of_getElem? hgl)
  have hlt : ∀ b ∈ S1 ++ S2, b < h.size := fun b hb => (List.mem_append.1 hb).elim (At.lt p1 b) (At.lt p2 b)
  refine ⟨S1 ++ S2, fun b hb => ⟨hlt b hb, (List.mem_append.1 hb).elim (d1 b) (d2 b)⟩, fun h1 hn => all_iter (s := s) (fun C hC => ?_) (fun b hb => Nat.lt_of_lt_of_le (hlt b hb) hn.1.1) hl⟩
  simp only [List.mem_cons, List.not_mem_nil, or_false] at hC
  rcases hC with rfl | rfl
  · exact ⟨S1, Asn.ext p1 hn.1 (by simp), fun b hb => List.mem_append_left _ hb⟩
  · exact ⟨S2, Asn.ext p2 hn.1 (by simp), fun b hb => List.mem_append_right _ hb⟩

end Go.Proofs.S
