/-
  slices.Repeat: math/bits.Mul64 of small numbers, copies within one row. Nothing here names a program.
-/
import Derived.Test.YtchedlkmgahicaaSxN
import Derived.Test.YtchedlkmgahicaaSxOv
set_option linter.unusedVariables false
namespace Go.Sx
open Go

theorem fdiv32 {x : Nat} (h : x < 4294967296) : Int.fdiv (x : Int) (2 ^ (min ((32 : Int)).toNat 64)) = 0 := by
  have e : (2 : Int) ^ (min ((32 : Int)).toNat 64) = 4294967296 := by decide
  rw [e, Int.fdiv_eq_ediv_of_nonneg _ (by decide)]
  omega
theorem band32 {x : Nat} (h : x < 4294967296) : bAnd .u64 (x : Int) (4294967295 : Int) = (x : Int) := by
  unfold bAnd
  have e3 : (BitVec.ofInt 64 (x : Int) &&& BitVec.ofInt 64 4294967295).toNat = x := by
    rw [BitVec.toNat_and]
    have e4 : (BitVec.ofInt 64 (x : Int)).toNat = x := by simp; omega
    have e5 : (BitVec.ofInt 64 4294967295).toNat = 2 ^ 32 - 1 := by decide
    rw [e4, e5, Nat.and_two_pow_sub_one_eq_mod]
    exact Nat.mod_eq_of_lt h
  show IntKind.wrap .u64 (((BitVec.ofInt 64 (x : Int) &&& BitVec.ofInt 64 4294967295).toNat : Nat) : Int) = _
  rw [e3, wrapu (by omega) (by omega)]

/-- The upper half of a small product. -/
theorem mul64_hi {a b : Nat} (ha : a < 4294967296) (hb : b < 4294967296) (hab : a * b < 4294967296) :
    (IntKind.wrap .u64 ((IntKind.wrap .u64 ((IntKind.wrap .u64 ((Int.fdiv (a : Int) (2 ^ (min ((32 : Int)).toNat 64))) * (Int.fdiv (b : Int) (2 ^ (min ((32 : Int)).toNat 64))))) + (Int.fdiv (IntKind.wrap .u64 ((IntKind.wrap .u64 ((Int.fdiv (a : Int) (2 ^ (min ((32 : Int)).toNat 64))) * (bAnd .u64 (b : Int) (4294967295 : Int)))) + (Int.fdiv (IntKind.wrap .u64 ((bAnd .u64 (a : Int) (4294967295 : Int)) * (bAnd .u64 (b : Int) (4294967295 : Int)))) (2 ^ (min ((32 : Int)).toNat 64))))) (2 ^ (min ((32 : Int)).toNat 64))))) + (Int.fdiv (IntKind.wrap .u64 ((bAnd .u64 (IntKind.wrap .u64 ((IntKind.wrap .u64 ((Int.fdiv (a : Int) (2 ^ (min ((32 : Int)).toNat 64))) * (bAnd .u64 (b : Int) (4294967295 : Int)))) + (Int.fdiv (IntKind.wrap .u64 ((bAnd .u64 (a : Int) (4294967295 : Int)) * (bAnd .u64 (b : Int) (4294967295 : Int)))) (2 ^ (min ((32 : Int)).toNat 64))))) (4294967295 : Int)) + (IntKind.wrap .u64 ((bAnd .u64 (a : Int) (4294967295 : Int)) * (Int.fdiv (b : Int) (2 ^ (min ((32 : Int)).toNat 64))))))) (2 ^ (min ((32 : Int)).toNat 64))))) = 0 := by
  have hp : (a : Int) * (b : Int) = ((a * b : Nat) : Int) := (Int.natCast_mul _ _).symm
  rw [fdiv32 ha, fdiv32 hb, band32 ha, band32 hb, hp, wrapu (x := ((a * b : Nat) : Int)) (by omega) (by omega), fdiv32 hab]
  simp only [Int.zero_mul, Int.mul_zero]
  decide

section
variable {τ : Ty} {t : TypeId} {h h' : Heap} {fr : Fr} {G As : List Asn} {s s2 : Sl} {xs ys : List τ.T}

/-- copy(s[i:], s[:i]) -/
theorem Hs.cpyIn (st : Hs fr G As h) (k : Nat) (hk : As[k]? = some (osl t τ.enc xs s)) {i : Nat} (hi : i < xs.length) (hleaf : Leaf τ) {K : Int → HP}
    (hK : ∀ h', Hs fr G (As.set k (osl t τ.enc (xs.take i ++ xs.take (min i (xs.length - i)) ++ xs.drop (i + min i (xs.length - i))) s)) h' → K ((min i (xs.length - i) : Nat) : Int) h') :
    cpy 1 (slR s i xs.length 1) (slR s 0 i 1) K h := by
  obtain ⟨S1, p, hw⟩ := st.focus k hk
  rcases p with ⟨b, rest, eS, es, hb⟩ | ⟨_, ex, _⟩
  · subst es
    have e1 : slR ⟨some ⟨b, 0, none⟩, xs.length, xs.length + rest.length⟩ i xs.length 1 = ⟨some ⟨b, 0 + i, none⟩, xs.length - i, xs.length + rest.length - i⟩ := slR_at (by omega)
    have e2 : slR ⟨some ⟨b, 0, none⟩, xs.length, xs.length + rest.length⟩ 0 i 1 = ⟨some ⟨b, 0 + 0, none⟩, i - 0, xs.length + rest.length - 0⟩ := slR_at (by omega)
    rw [e1, e2]
    have em : Nat.min (i - 0) (xs.length - i) = min i (xs.length - i) := rfl
    refine cpy_ok (vs := (xs.take (min i (xs.length - i))).map τ.enc) hb hb (by rw [em]; simp <;> omega) (fun j hj => ?_) (by simp; omega) (fun v hv => ?_) fun h' hb' x => ?_
    · have hj' : j < min i (xs.length - i) := by simp at hj; omega
      rw [Nat.zero_add, List.getElem?_append_left (by simp; omega), List.getElem?_map, List.getElem?_map, List.getElem?_take_of_lt hj']
    · obtain ⟨y, _, rfl⟩ := List.mem_map.1 hv
      exact hleaf y
    · rw [em]
      refine hK _ (hw (osl t τ.enc (xs.take i ++ xs.take (min i (xs.length - i)) ++ xs.drop (i + min i (xs.length - i))) ⟨some ⟨b, 0, none⟩, xs.length, xs.length + rest.length⟩) [b] _ (by rw [eS]; exact x) (.inl ⟨b, rest, rfl, ?_, ?_⟩) (by simp [eS]))
      · have el : (xs.take i ++ xs.take (min i (xs.length - i)) ++ xs.drop (i + min i (xs.length - i))).length = xs.length := by simp; omega
        rw [el]
      · have e3 : List.take (0 + i) (List.map τ.enc xs ++ rest) ++ List.map τ.enc (xs.take (min i (xs.length - i))) ++ List.drop (0 + i + (List.map τ.enc (xs.take (min i (xs.length - i)))).length) (List.map τ.enc xs ++ rest) = List.map τ.enc (xs.take i ++ xs.take (min i (xs.length - i)) ++ xs.drop (i + min i (xs.length - i))) ++ rest := by
          have el : (List.map τ.enc (xs.take (min i (xs.length - i)))).length = min i (xs.length - i) := by rw [List.length_map, List.length_take]; omega
          rw [el, Nat.zero_add, List.take_append_of_le_length (by simp; omega), List.drop_append_of_le_length (by simp; omega)]
          simp
        rw [e3] at hb'; exact hb'
  · subst ex; simp at hi

/-- copy(d, s), of what is no longer. -/
theorem Hs.cpyP (st : Hs fr G As h) (k : Nat) (hk : As[k]? = some (osl t τ.enc xs s)) (hy : At h (rsl τ.enc ys s2)) (hlen : ys.length ≤ xs.length) (hleaf : Leaf τ) {K : Int → HP}
    (hK : ∀ h', Hs fr G (As.set k (osl t τ.enc (ys ++ xs.drop ys.length) s)) h' → K (ys.length : Int) h') : cpy 1 s s2 K h := by
  have hl := osl_len (st.own k hk)
  have hl2 := rsl_len hy
  have hf := rsl_first hy
  have em : Nat.min s2.len s.len = s2.len := Nat.min_eq_left (by omega)
  obtain ⟨S1, p, hw⟩ := st.focus k hk
  refine ⟨ys.map τ.enc, by rw [em]; exact hf, ?_⟩
  rw [em, hl2]
  rcases p with ⟨b', rest, eS, es, hb⟩ | ⟨eS, ex, e1, e2⟩
  · subst es
    simp only
    refine stA_ok _ 0 hb (by simp; omega) (by intro v hv; obtain ⟨x, _, rfl⟩ := List.mem_map.1 hv; exact hleaf x) fun h' hb' x => ?_
    refine hK _ (hw (osl t τ.enc (ys ++ xs.drop ys.length) ⟨some ⟨b', 0, none⟩, xs.length, xs.length + rest.length⟩) [b'] _ (by rw [eS]; exact x) (.inl ⟨b', rest, rfl, ?_, ?_⟩) (by simp [eS]))
    · have el : (ys ++ xs.drop ys.length).length = xs.length := by simp; omega
      rw [el]
    · have e : List.take (0 + 0) (List.map τ.enc xs ++ rest) ++ List.map τ.enc ys ++ List.drop (0 + 0 + (List.map τ.enc ys).length) (List.map τ.enc xs ++ rest) = List.map τ.enc (ys ++ xs.drop ys.length) ++ rest := by
        have el : 0 + 0 + (List.map τ.enc ys).length = ys.length := by simp
        rw [el, List.drop_append_of_le_length (by simpa using hlen)]; simp
      rw [e] at hb'; exact hb'
  · subst ex
    have hy0 : ys = [] := List.eq_nil_of_length_eq_zero (by simpa using hlen)
    subst hy0
    have key : K ((([] : List τ.T).length : Nat) : Int) h := hK _ (hw (osl t τ.enc ([] ++ List.drop 0 []) s) [] h (Ext.refl' _ _) (.inr ⟨rfl, rfl, e1, e2⟩) (by simp))
    cases s.a with
    | none => exact key
    | some a => exact key
/-- copy into nothing. -/
theorem cpy_nil {K : Int → HP} (hs : s.len = 0) (hy : At h (rsl τ.enc ys s2)) (hK : K 0 h) : cpy 1 s s2 K h := by
  have em : Nat.min s2.len s.len = 0 := by rw [hs]; exact Nat.min_zero _
  refine ⟨[], ?_, ?_⟩
  · rw [em]
    unfold FirstCells
    cases s2.a with
    | none => rfl
    | some a => exact ⟨rfl, trivial⟩
  · rw [em]
    cases s.a with
    | none => exact hK
    | some a => exact hK

/-- Repeat of one element: the copies that double what there is. -/
def W_repLoop (s5 : Sl) (K : Sl → HP) : Int → HP := fun n6 =>
  lfp (σ := (Int × Unit)) (fun X7 s8 => brB (decide (s8.1 < (s5.len : Int)))
    (slL ⟨s5.a, s5.len, s5.cap⟩ s8.1 1 fun s9 => slH ⟨s5.a, s5.len, s5.cap⟩ s8.1 1 fun s10 => cpy 1 ⟨s9.a, s9.len, s9.cap⟩ ⟨s10.a, s10.len, s10.cap⟩ fun n11 => X7 ((IntKind.wrap .i64 (s8.1 + n11)), ()))
    (K ⟨s5.a, s5.len, s5.cap⟩)) (n6, ())
theorem Hs.repLoop (st : Hs fr G As h) (k : Nat) {n : Nat} {v z : τ.T} (h0 : 0 < n) (hn : n ≤ 1099511627776) (hk : As[k]? = some (osl t τ.enc (v :: List.replicate (n - 1) z) s)) (hleaf : Leaf τ) {K : Sl → HP}
    (hK : ∀ h', Hs fr G (As.set k (osl t τ.enc (List.replicate n v) s)) h' → K s h') : W_repLoop s K 1 h := by
  unfold W_repLoop
  have l1 := osl_len (st.own k hk)
  have c1 := rsl_cap (st.own k hk).rsl
  have hkl := (List.getElem?_eq_some_iff.1 hk).1
  have l2 : s.len = n := by rw [l1]; simp; omega
  have e0 : As.set k (osl t τ.enc (List.replicate 1 v ++ List.replicate (n - 1) z) s) = As := by
    apply List.ext_getElem?
    intro j
    rw [List.getElem?_set]
    by_cases q : k = j
    · subst q; rw [if_pos rfl, if_pos hkl, hk]; rfl
    · rw [if_neg q]
  refine lfp_invh (I := fun μ σ h' => ∃ i : Nat, σ = ((i : Int), ()) ∧ 1 ≤ i ∧ i ≤ n ∧ Hs fr G (As.set k (osl t τ.enc (List.replicate i v ++ List.replicate (n - i) z) s)) h' ∧ μ = n - i) ⟨_, 1, rfl, by omega, by omega, by rw [e0]; exact st, rfl⟩ ?_
  clear st
  rintro μ σ h2 X ⟨i, rfl, hi1, hi, st, em⟩ hX
  simp only
  by_cases hlt : i < n
  · rw [decide_eq_true (show (i : Int) < (s.len : Int) by omega), brB_true]
    refine ⟨by omega, by simp only; omega, ?_⟩
    refine ⟨by omega, by simp only; omega, ?_⟩
    rw [Int.toNat_natCast]
    have hk2 : (As.set k (osl t τ.enc (List.replicate i v ++ List.replicate (n - i) z) s))[k]? = some (osl t τ.enc (List.replicate i v ++ List.replicate (n - i) z) s) := by rw [List.getElem?_set, if_pos rfl, if_pos hkl]
    have el : (List.replicate i v ++ List.replicate (n - i) z).length = n := by simp; omega
    have := st.cpyIn (K := fun n11 => X (IntKind.wrap .i64 ((i : Int) + n11), ())) k hk2 (i := i) (by rw [el]; exact hlt) hleaf fun h3 st => ?_
    · rw [el] at this
      rw [l2]; exact this
    · rw [el, List.set_set] at st
      rw [el]
      have ew : IntKind.wrap .i64 ((i : Int) + ((min i (n - i) : Nat) : Int)) = ((i + min i (n - i) : Nat) : Int) := by rw [wrap_i64 (by omega) (by omega)]; omega
      rw [ew]
      refine hX _ _ _ ⟨i + min i (n - i), rfl, by omega, by omega, ?_, rfl⟩ (by omega)
      have e1 : (List.replicate i v ++ List.replicate (n - i) z).take i = List.replicate i v := by rw [List.take_append_of_le_length (by simp)]; simp
      have e2 : (List.replicate i v ++ List.replicate (n - i) z).take (min i (n - i)) = List.replicate (min i (n - i)) v := by
        rw [List.take_append_of_le_length (by simp; omega), List.take_replicate]; congr 1; omega
      have e3 : (List.replicate i v ++ List.replicate (n - i) z).drop (i + min i (n - i)) = List.replicate (n - (i + min i (n - i))) z := by
        rw [← List.drop_drop, List.drop_append_of_le_length (by simp)]
        simp; omega
      rw [e1, e2, e3, List.replicate_append_replicate] at st
      exact st
  · rw [decide_eq_false (show ¬ (i : Int) < (s.len : Int) by omega), brB_false]
    have e : i = n := by omega
    subst e
    rw [Nat.sub_self, List.replicate_zero, List.append_nil] at st
    exact hK _ st

end
end Go.Sx
