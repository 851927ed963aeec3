/-
  IndexFunc over slices of slices; stores into elements of three cells; a swap is a permutation. Nothing here names a program.
-/
import Derived.Test.YtmlamkoilggonaaGreatSxCk
set_option linter.unusedVariables false
namespace Go.Sx
open Go

section
variable {P : Program} {h h' : Heap} {s : Sl}

theorem w_indexFuncG {β : Type} {I : β → Sl → Asn} {fv : Value} {p : β → Bool} {us : List β} (hA : At h (rsg I us s)) (hl : us.length ≤ 1099511627776)
    (hc : ∀ x ∈ us, ∀ q h', Ext [] h h' → At h' (I x q) → callF P fv #[Ty.sl.enc q] .bool (fun b h2 => b = p x ∧ Ext [] h' h2) h') {K : Int → HP}
    (hK : ∀ h', Ext [] h h' → K (fidx p us) h') : W_indexFunc P .sl s fv K h := by
  unfold W_indexFunc
  have l1 := rsg_len hA
  refine lfp_invh (I := fun m σ h' => ∃ i : Nat, σ = ((i : Int), 0, ()) ∧ i ≤ us.length ∧ (∀ j (hj : j < i) (h2 : j < us.length), p us[j] = false) ∧ Ext [] h h' ∧ m = us.length - i) ⟨_, 0, rfl, by omega, fun j hj => by omega, Ext.refl' _ _, rfl⟩ ?_
  rintro m σ h' X ⟨i, rfl, hi, hn, x, em⟩ hX
  simp only
  by_cases hlt : i < us.length
  · rw [show decide ((i : Int) < (s.len : Int)) = true by rw [l1]; exact dlt_t hlt, brB_true, inc_i (show i < 4611686018427387904 by omega)]
    refine rdG (hA.ext x) hlt fun q hq => ?_
    refine callF_of (hc _ (List.getElem_mem hlt) q h' x hq) ?_
    rintro r h2 ⟨er, x2⟩
    have er : r = p us[i] := er
    subst er
    cases hpx : p us[i] with
    | true =>
      rw [brB_true]
      have := hK h2 (x.nil_trans x2)
      rw [fidx_some hlt hpx fun j hj => hn j hj (by omega)] at this; exact this
    | false =>
      rw [brB_false]
      refine hX _ _ _ ⟨i + 1, rfl, by omega, fun j hj h3 => ?_, x.nil_trans x2, rfl⟩ (by omega)
      rcases Nat.lt_or_ge j i with q | q
      · exact hn j q h3
      · have : j = i := by omega
        subst this; exact hpx
  · rw [show decide ((i : Int) < (s.len : Int)) = false by rw [l1]; exact dlt_f hlt, brB_false]
    have := hK h' x
    rw [fidx_none fun j hj => hn j (by omega) hj] at this; exact this
end

theorem perm_swap {α : Type} {xs : List α} {i j : Nat} (hi : i < xs.length) (hj : j < xs.length) : ((xs.set i xs[j]).set j xs[i]).Perm xs := by
  have h := Array.swap_perm (xs := xs.toArray) (i := i) (j := j) (by simpa using hi) (by simpa using hj)
  have h2 := Array.perm_iff_toList_perm.1 h
  simpa [Array.swap_def] using h2

section
variable {α : Type} {enc : α → List Value} {xs : List α} {s : Sl} {fr : Fr} {G As : List Asn} {h : Heap} {t : TypeId}

theorem flat_set {n : Nat} (hw : Wide n enc) {x : α} : ∀ {xs : List α} {i : Nat}, i < xs.length → ((xs.set i x).map enc).flatten = ((xs.map enc).flatten.take (i * n)) ++ enc x ++ ((xs.map enc).flatten.drop (i * n + n))
  | y :: ys, 0, _ => by
    simp only [List.set_cons_zero, List.map_cons, List.flatten_cons, Nat.zero_mul, List.take_zero, List.nil_append, Nat.zero_add]
    congr 1
    rw [← hw y, List.drop_left]
  | y :: ys, i + 1, hi => by
    simp only [List.set_cons_succ, List.map_cons, List.flatten_cons]
    rw [flat_set hw (xs := ys) (by simpa using hi)]
    have e1 : (i + 1) * n = (enc y).length + i * n := by rw [hw y, Nat.succ_mul]; omega
    rw [e1, List.take_length_add_append, Nat.add_assoc, List.drop_length_add_append]
    simp

/-- A store of a whole element of three cells. -/
theorem Hs.wr3 {K : HP} (st : Hs fr G As h) (hw : Wide 3 enc) (k : Nat) (hk : As[k]? = some (osn t 3 enc xs s)) {i : Nat} (hi : i < xs.length) (x : α) {v0 v1 v2 : Value} (hx : enc x = [v0, v1, v2])
    (hK : ∀ h', Hs fr G (As.set k (osn t 3 enc (xs.set i x) s)) h' → K h') :
    sx s.a s.len (i : Int) 3 (fun p => Sx.st1 p v0 <| Sx.st1 (p.add 1) v1 <| Sx.st1 (p.add 2) v2 <| K) h := by
  obtain ⟨S1, p, hwr⟩ := st.focus k hk
  rcases p with ⟨b, rest, cap, eS, es, hr, hb⟩ | ⟨_, ex, _⟩
  · subst es
    refine ⟨_, rfl, Int.natCast_nonneg _, Int.ofNat_lt.2 hi, ?_⟩
    rw [Int.toNat_natCast]
    simp only [addr_add, Nat.zero_add]
    have hfl := flat_len hw xs
    have hle : i * 3 + 3 ≤ xs.length * 3 := by omega
    rw [st_ok hb (by simp [hfl]; omega)]
    have hb1 := hb.set (i * 3) v0
    rw [st_ok hb1 (by simp [hfl]; omega)]
    have hb2 := hb1.set (i * 3 + 1) v1
    rw [st_ok hb2 (by simp [hfl]; omega)]
    have hb3 := hb2.set (i * 3 + 2) v2
    refine hK _ (hwr (osn t 3 enc (xs.set i x) ⟨some ⟨b, 0, none⟩, xs.length, xs.length + cap⟩) [b] _ ((((Ext.refl' S1 h).set _ _ (by simp [eS])).set _ _ (by simp [eS])).set _ _ (by simp [eS])) (.inl ⟨b, rest, cap, rfl, by simp, hr, ?_⟩) (by simp [eS]))
    have e : ((((xs.map enc).flatten ++ rest).set (i * 3) v0).set (i * 3 + 1) v1).set (i * 3 + 2) v2 = ((xs.set i x).map enc).flatten ++ rest := by
      rw [flat_set hw hi, hx]
      generalize hF : (xs.map enc).flatten = F at *
      have hF3 : F.length = xs.length * 3 := hfl
      apply List.ext_getElem?
      intro j
      rw [List.getElem?_set, List.getElem?_set, List.getElem?_set]
      simp only [List.length_set, List.length_append]
      have hl1 : (F.take (i * 3)).length = i * 3 := by rw [List.length_take]; omega
      have hl2 : (F.take (i * 3) ++ [v0, v1, v2]).length = i * 3 + 3 := by rw [List.length_append, hl1]; rfl
      have hl3 : (F.take (i * 3) ++ [v0, v1, v2] ++ F.drop (i * 3 + 3)).length = F.length := by rw [List.length_append, hl2, List.length_drop]; omega
      rcases Nat.lt_or_ge j F.length with q | q
      · rw [List.getElem?_append_left (l₁ := F) q]
        rcases Nat.lt_or_ge j (i * 3) with q1 | q1
        · have hR : (F.take (i * 3) ++ [v0, v1, v2] ++ F.drop (i * 3 + 3) ++ rest)[j]? = F[j]? := by
            rw [List.getElem?_append_left (by omega), List.getElem?_append_left (by omega), List.getElem?_append_left (by omega), List.getElem?_take_of_lt q1]
          rw [hR, if_neg (by omega), if_neg (by omega), if_neg (by omega)]
        · rcases Nat.lt_or_ge j (i * 3 + 3) with q2 | q2
          · have hR : (F.take (i * 3) ++ [v0, v1, v2] ++ F.drop (i * 3 + 3) ++ rest)[j]? = [v0, v1, v2][j - i * 3]? := by
              rw [List.getElem?_append_left (by omega), List.getElem?_append_left (by omega), List.getElem?_append_right (by omega), hl1]
            rw [hR]
            have hj : j = i * 3 ∨ j = i * 3 + 1 ∨ j = i * 3 + 2 := by omega
            rcases hj with rfl | rfl | rfl
            · rw [if_neg (by omega), if_neg (by omega), if_pos rfl, if_pos (by omega), Nat.sub_self]; rfl
            · rw [if_neg (by omega), if_pos rfl, if_pos (by omega), Nat.add_sub_cancel_left]; rfl
            · rw [if_pos rfl, if_pos (by omega), Nat.add_sub_cancel_left]; rfl
          · have hR : (F.take (i * 3) ++ [v0, v1, v2] ++ F.drop (i * 3 + 3) ++ rest)[j]? = F[j]? := by
              rw [List.getElem?_append_left (by omega), List.getElem?_append_right (by omega), hl2, List.getElem?_drop]
              congr 1; omega
            rw [hR, if_neg (by omega), if_neg (by omega), if_neg (by omega)]
      · have hR : (F.take (i * 3) ++ [v0, v1, v2] ++ F.drop (i * 3 + 3) ++ rest)[j]? = rest[j - F.length]? := by
          rw [List.getElem?_append_right (by omega), hl3]
        rw [hR, List.getElem?_append_right (l₁ := F) q, if_neg (by omega), if_neg (by omega), if_neg (by omega)]
    rw [e] at hb3; exact hb3
  · subst ex; simp at hi
end
end Go.Sx
