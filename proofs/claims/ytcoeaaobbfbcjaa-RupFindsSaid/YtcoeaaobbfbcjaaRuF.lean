/-
  The laws' helpers of rup: awake.
-/
import Derived.Test.YtcoeaaobbfbcjaaRuE
import Derived.Test.YtcoeaaobbfbcjaaClG
set_option linter.unusedVariables false
set_option linter.unusedSimpArgs false
namespace Go.Proofs.S
open Go Go.Sx Go.Proofs Go.Cl Go.Rp

variable {h : Heap} {c d A us : List Int} {cs ds hs : List (List Int)} {s s2 : Sl} {fr : Fr} {G As : List Asn} {b n : Nat} {t : TypeId}

/-- A written row of numbers, that is read from then on. -/
theorem Hs.lit (st : Hs fr G As h) (xs : List Int) {vs : Array Value} (n : Nat) (hn : n = xs.length) (hvs : vs.toList = xs.map i64.enc) {K : Nat → HP}
    (hK : ∀ b h', Hs fr (G ++ [li xs ⟨some ⟨b, 0, none⟩, n, n⟩]) As h' → K b h') : Sx.nw vs t K h := by
  subst hn
  refine st.nw fun b h1 st => ?_
  rw [hvs] at st
  have st := st.asSl As.length i64.enc xs (lastA _ _) rfl
  have st := st.froz As.length (by rw [List.getElem?_set_self (by simp)])
  rw [List.set_append_right _ _ (Nat.le_refl _), Nat.sub_self, List.set_cons_zero, List.eraseIdx_append_of_length_le (Nat.le_refl _), Nat.sub_self, List.eraseIdx_cons_zero, List.append_nil] at st
  exact hK b h1 st

/-- Rows behind headers. -/
def AllAt (h : Heap) : List (List Int) → List Sl → Prop
  | [], [] => True
  | c :: cs, p :: ps => At h (li c p) ∧ AllAt h cs ps
  | _, _ => False
theorem AllAt.len : ∀ {cs : List (List Int)} {ps : List Sl}, AllAt h cs ps → ps.length = cs.length
  | [], [], _ => rfl
  | c :: cs, p :: ps, ⟨_, k⟩ => by simp [AllAt.len k]
  | [], _ :: _, k => k.elim
  | _ :: _, [], k => k.elim
theorem AllAt.get : ∀ {cs : List (List Int)} {ps : List Sl}, AllAt h cs ps → ∀ i (h1 : i < cs.length) (h2 : i < ps.length), At h (li cs[i] ps[i])
  | c :: cs, p :: ps, ⟨k, _⟩, 0, _, _ => k
  | c :: cs, p :: ps, ⟨_, k⟩, i + 1, h1, h2 => AllAt.get k i (Nat.lt_of_succ_lt_succ h1) (Nat.lt_of_succ_lt_succ h2)
  | [], _, _, i, h1, _ => by simp at h1
  | _ :: _, [], k, _, _, _ => k.elim
theorem lli_mk {ps : List Sl} {vs : List Value} (hb : Blk h b t vs) (hvs : vs = ps.map Ty.sl.enc) (hn : n = ps.length) (ha : AllAt h cs ps) : At h (lli cs ⟨some ⟨b, 0, none⟩, n, n⟩) := by
  subst hvs hn
  exact rsg_at ha.len ⟨[b], rfl, Nat.le_refl _, .inr ⟨⟨b, 0, none⟩, rfl, rfl, hb.isCells, fun i x hi => by rw [addr_add, cell_blk hb, Nat.zero_add, List.getElem?_map, hi]; rfl⟩⟩ ha.get

abbrev τw : Ty := .cons .sl (.cons (.int .u8) (.cons (.int .i64) .nil))
theorem wide_w : Wide 3 τw.vals := fun _ => rfl

set_option maxRecDepth 10000 in
theorem awake_c (h : Heap) : callT Try.prog fn_salvorlaw08_awake #[] .bool (fun r h' => r = true ∧ Ext [] h h') h := by
  refine callT_gen fun K hK => S_salvorlaw08_awake K ?_
  unfold F_salvorlaw08_awake
  have st := Hs.start h [li [] ⟨none, 0, 0⟩] (by simp; exact ⟨[], rfl, by simp, .inl ⟨rfl, rfl⟩⟩)
  refine Hs.lit st [-1, 2] 2 rfl rfl fun b0 h1 st => ?_
  refine Hs.lit st [1, -2] 2 rfl rfl fun b1 h1 st => ?_
  refine Hs.lit st [1, 3] 2 rfl rfl fun b2 h1 st => ?_
  refine Hs.lit st [1, 3, 3] 3 rfl rfl fun b3 h1 st => ?_
  refine Hs.lit st [2, 5] 2 rfl rfl fun b4 h1 st => ?_
  refine Hs.lit st [3, 4] 2 rfl rfl fun b5 h1 st => ?_
  refine st.nw fun b6 h1 st => ?_
  let rows : List τw.T := [(⟨some ⟨b1, 0, none⟩, 2, 2⟩, 2, 0, ()), (⟨some ⟨b2, 0, none⟩, 2, 2⟩, 3, 3, ()), (⟨some ⟨b3, 0, none⟩, 3, 3⟩, 3, 3, ()), (⟨some ⟨b4, 0, none⟩, 2, 2⟩, 1, 0, ()), (⟨some ⟨b5, 0, none⟩, 2, 2⟩, 4, 0, ()), (⟨none, 0, 0⟩, 2, 0, ())]
  have st := st.asSn 0 3 τw.vals rows rfl rfl
  simp only [List.cons_append, List.nil_append, List.set_cons_zero] at st
  let GG : List Asn := [li [] ⟨none, 0, 0⟩, li [-1, 2] ⟨some ⟨b0, 0, none⟩, 2, 2⟩, li [1, -2] ⟨some ⟨b1, 0, none⟩, 2, 2⟩, li [1, 3] ⟨some ⟨b2, 0, none⟩, 2, 2⟩, li [1, 3, 3] ⟨some ⟨b3, 0, none⟩, 3, 3⟩, li [2, 5] ⟨some ⟨b4, 0, none⟩, 2, 2⟩, li [3, 4] ⟨some ⟨b5, 0, none⟩, 2, 2⟩]
  let T : Asn := osn ty_struct_c_clauses_Clause_kind_uint8_unit_lits_Lit 3 τw.vals rows ⟨some ⟨b6, 0, none⟩, 6, 6⟩
  have st : Hs [([], h)] GG [T] h1 := st
  have data : ∀ i (hi : i < rows.length), ∃ (d : List Int) (k : Nat), GG[k]? = some (li d rows[i].1) ∧ d.length ≤ 5 ∧ lookF [-1, 2] d = (rows[i].2.1, rows[i].2.2.1, 0) := by
    intro i hi
    match i, hi with
    | 0, _ => exact ⟨_, 2, rfl, by decide, (by decide +kernel : lookF [-1, 2] [1, -2] = (2, 0, 0))⟩
    | 1, _ => exact ⟨_, 3, rfl, by decide, (by decide +kernel : lookF [-1, 2] [1, 3] = (3, 3, 0))⟩
    | 2, _ => exact ⟨_, 4, rfl, by decide, (by decide +kernel : lookF [-1, 2] [1, 3, 3] = (3, 3, 0))⟩
    | 3, _ => exact ⟨_, 5, rfl, by decide, (by decide +kernel : lookF [-1, 2] [2, 5] = (1, 0, 0))⟩
    | 4, _ => exact ⟨_, 6, rfl, by decide, (by decide +kernel : lookF [-1, 2] [3, 4] = (4, 0, 0))⟩
    | 5, _ => exact ⟨_, 0, rfl, by decide, (by decide +kernel : lookF [-1, 2] [] = (2, 0, 0))⟩
  have hrl : rows.length = 6 := rfl
  refine lfp_invh (I := fun m σ h' => ∃ (i : Nat) (x : Bool), σ = ((i : Int), x, ()) ∧ i ≤ rows.length ∧ m = rows.length - i ∧ Hs [([], h)] GG [T] h') ⟨_, 0, false, rfl, by omega, rfl, st⟩ ?_
  clear st
  rintro m σ h' X ⟨i, x, rfl, hi, rfl, st⟩ hX
  simp only
  by_cases hlt : i < rows.length
  · refine brT (decide_eq_true (by omega)) ?_
    refine rdN (τ := τw) (s := ⟨some ⟨b6, 0, none⟩, 6, 6⟩) ((st.own 0 rfl).rsn wide_w) hlt ?_
    obtain ⟨d, k, hk, hdl, hlook⟩ := data i hlt
    generalize rows[i] = row at hk hlook
    obtain ⟨sl, kd, un, ⟨⟩⟩ := row
    simp only at hk hlook ⊢
    refine st.nw fun b11 h2 st => ?_
    refine st.st1 1 0 rfl (by simp) fun h3 st => ?_
    rw [addr_add]
    refine st.st1 1 1 rfl (by simp) fun h4 st => ?_
    rw [addr_add]
    refine st.st1 1 2 rfl (by simp) fun h5 st => ?_
    rw [st.lds 1 0 rfl rfl]
    refine call_of (Look_c (st.fz k hk) (st.fz 1 rfl) (by omega) (by decide)) ?_
    rintro _ h6 ⟨rfl, x6⟩
    have st := st.ext x6
    rw [hlook]
    simp only
    rw [st.ldi 1 1 rfl rfl]
    have fin : X (IntKind.wrap .i64 ((i : Int) + 1), x, ()) h6 := by
      rw [inc_i (by omega)]
      exact hX _ _ _ ⟨i + 1, x, rfl, by omega, rfl, st.drop 1 rfl⟩ (by omega)
    refine jn_in fun J hJ => brF (by simp) ?_
    rw [st.ldi 1 2 rfl rfl]
    refine hJ _ _ ?_
    refine jn_in fun J2 hJ2 => brF (by simp) (hJ2 _ _ (brF rfl fin))
  · refine brF (decide_eq_false (by omega)) ?_
    have st := st.drop 0 rfl
    refine Hs.lit st [3] 1 rfl rfl fun b20 h1 st => ?_
    refine Hs.lit st [1, 3] 2 rfl rfl fun b21 h1 st => ?_
    refine Hs.lit st [-1, 3] 2 rfl rfl fun b22 h1 st => ?_
    refine Hs.lit st [1, 2] 2 rfl rfl fun b23 h1 st => ?_
    refine st.nw fun b24 h1 st => ?_
    refine call_of (Check_c (st.fz 7 rfl) (lli_mk (st.blk 0 rfl) (ps := [⟨some ⟨b21, 0, none⟩, 2, 2⟩, ⟨some ⟨b22, 0, none⟩, 2, 2⟩]) rfl rfl (cs := [[1, 3], [-1, 3]]) ⟨st.fz 8 rfl, st.fz 9 rfl, trivial⟩) (by decide) (by decide)) ?_
    rintro _ h2 ⟨rfl, x2⟩
    have st := (st.ext x2).drop 0 rfl
    rw [show checkP [3] [[1, 3], [-1, 3]] = ([1], 2, 0) by decide +kernel]
    refine st.nw fun b26 h1 st => ?_
    refine call_of (Check_c (st.fz 7 rfl) (lli_mk (st.blk 0 rfl) (ps := [⟨some ⟨b22, 0, none⟩, 2, 2⟩, ⟨some ⟨b21, 0, none⟩, 2, 2⟩]) rfl rfl (cs := [[-1, 3], [1, 3]]) ⟨st.fz 9 rfl, st.fz 8 rfl, trivial⟩) (by decide) (by decide)) ?_
    rintro _ h2 ⟨rfl, x2⟩
    have st := (st.ext x2).drop 0 rfl
    rw [show checkP [3] [[-1, 3], [1, 3]] = ([-1], 2, 0) by decide +kernel]
    refine st.nw fun b28 h1 st => ?_
    refine call_of (Check_c (st.fz 7 rfl) (lli_mk (st.blk 0 rfl) (ps := [⟨some ⟨b23, 0, none⟩, 2, 2⟩, ⟨some ⟨b21, 0, none⟩, 2, 2⟩, ⟨some ⟨b22, 0, none⟩, 2, 2⟩]) rfl rfl (cs := [[1, 2], [1, 3], [-1, 3]]) ⟨st.fz 10 rfl, st.fz 8 rfl, st.fz 9 rfl, trivial⟩) (by decide) (by decide)) ?_
    rintro _ h2 ⟨rfl, x2⟩
    have st := (st.ext x2).drop 0 rfl
    rw [show checkP [3] [[1, 2], [1, 3], [-1, 3]] = ([], 0, 81) by decide +kernel]
    refine st.nw fun b30 h1 st => ?_
    refine call_of (Check_c (st.fz 7 rfl) (lli_mk (st.blk 0 rfl) (ps := [⟨some ⟨b21, 0, none⟩, 2, 2⟩]) rfl rfl (cs := [[1, 3]]) ⟨st.fz 8 rfl, trivial⟩) (by decide) (by decide)) ?_
    rintro _ h2 ⟨rfl, x2⟩
    have st := (st.ext x2).drop 0 rfl
    rw [show checkP [3] [[1, 3]] = ([1], 1, 82) by decide +kernel]
    refine Hs.lit st [5, 6] 2 rfl rfl fun b32 h1 st => ?_
    refine Hs.lit st [3, -4] 2 rfl rfl fun b33 h1 st => ?_
    refine st.nw fun b34 h1 st => ?_
    refine call_of (Find_c (st.fz 7 rfl) (lli_mk (st.blk 0 rfl) (ps := [⟨some ⟨b32, 0, none⟩, 2, 2⟩, ⟨some ⟨b21, 0, none⟩, 2, 2⟩, ⟨some ⟨b33, 0, none⟩, 2, 2⟩, ⟨some ⟨b22, 0, none⟩, 2, 2⟩]) rfl rfl (cs := [[5, 6], [1, 3], [3, -4], [-1, 3]]) ⟨st.fz 11 rfl, st.fz 8 rfl, st.fz 12 rfl, st.fz 9 rfl, trivial⟩) (by decide) (by decide) (by decide)) ?_
    rintro _ h2 ⟨s', rfl, n2, x2⟩
    have st := (st.drop 0 rfl).new x2 n2
    rw [show findP [3] [[5, 6], [1, 3], [3, -4], [-1, 3]] = ([1, 3], true, 0) by decide +kernel] at st ⊢
    refine Hs.lit st [2, -2] 2 rfl rfl fun b36 h1 st => ?_
    refine call_of (Check_c (st.fz 13 rfl) (lli_nil _) (by decide) (by decide)) ?_
    rintro _ h2 ⟨rfl, x2⟩
    have st := st.ext x2
    rw [show checkP [2, -2] [] = ([], 0, 0) by decide +kernel]
    refine jn_in fun J hJ => brT rfl (hJ _ _ ?_)
    refine jn_in fun J hJ => brT rfl (hJ _ _ ?_)
    refine jn_in fun J hJ => brT rfl (hJ _ _ ?_)
    refine jn_in fun J hJ => brT rfl (hJ _ _ ?_)
    refine jn_in fun J hJ => brT rfl (hJ _ _ ?_)
    refine jn_in fun J hJ => brT rfl (hJ _ _ ?_)
    refine jn_in fun J hJ => brT rfl (hJ _ _ ?_)
    refine jn_in fun J hJ => brT rfl ?_
    refine Hs.lit st [1, 3] 2 rfl rfl fun b56 h1 st => ?_
    refine call_of (equal_int (st.own 0 rfl).rsl (st.fz 14 rfl) (by decide)) ?_
    rintro _ h3 ⟨rfl, e⟩; subst e
    refine hJ _ _ ?_
    refine jn_in fun J hJ => brT (by decide) (hJ _ _ ?_)
    exact hK _ _ ⟨rfl, st.frame (by simp)⟩

end Go.Proofs.S
