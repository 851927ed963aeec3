/-
  make([]T, n), of elements of several cells; the rest of a slice of such elements. Nothing here names a program.
-/
import Derived.Test.YtchedlkmgahicaaSxN
set_option linter.unusedVariables false
namespace Go.Sx
open Go

section
variable {α : Type} {t : TypeId} {h h' : Heap} {fr : Fr} {G As : List Asn} {by_ n : Nat} {enc : α → List Value} {xs : List α} {s : Sl}

theorem zrow_rep (hw : Wide n enc) (hn : 0 < n) {x : α} (len : Nat) : (if len * n = 0 then (#[] : Array Value) else zrow (enc x).toArray (len * n)).toList = ((List.replicate len x).map enc).flatten := by
  have hl : ((List.replicate len x).map enc).flatten.length = len * n := by rw [flat_len hw]; simp
  by_cases h0 : len * n = 0
  · rw [if_pos h0]
    exact (List.eq_nil_of_length_eq_zero (by rw [hl, h0])).symm
  · rw [if_neg h0]
    refine List.ext_getElem? fun q => ?_
    by_cases hq : q < len * n
    · have e := hw x
      have hm : q % n < n := Nat.mod_lt _ hn
      have hd : q / n < len := Nat.div_lt_of_lt_mul (by rw [Nat.mul_comm]; exact hq)
      have g := flat_get hw (xs := List.replicate len x) (i := q / n) (x := x) (by rw [List.getElem?_replicate, if_pos hd]) (j := q % n) (v := (enc x)[q % n]'(by omega)) [] (List.getElem?_eq_getElem (by omega))
      rw [List.append_nil, Nat.mul_comm, Nat.div_add_mod] at g
      rw [g, List.getElem?_eq_getElem (by simpa [zrow] using hq)]
      simp [zrow, e]
      rw [List.getElem?_eq_getElem (by omega)]; rfl
    · rw [List.getElem?_eq_none (show (zrow (enc x).toArray (len * n)).toList.length ≤ q by simp [zrow]; omega), List.getElem?_eq_none (by omega)]

theorem Hs.mksN (st : Hs fr G As h) (hw : Wide n enc) (hn0 : 0 < n) {len : Nat} {x : α} {z : Array Value} {K : Sl → HP} (hz : z.toList = enc x) (hn : len * by_ ≤ 140737488355328) (hby : 0 < by_) (hK : ∀ s' h', Hs fr G (As ++ [osn t n enc (List.replicate len x) s']) h' → K s' h') :
    Sx.mks t n by_ z (len : Int) (len : Int) K h := by
  have hn2 : len ≤ 140737488355328 := Nat.le_trans (Nat.le_mul_of_pos_right len hby) hn
  have e1 : (by_ : Int) * (len : Int) = ((len * by_ : Nat) : Int) := by rw [Int.natCast_mul, Int.mul_comm]
  refine ⟨Int.natCast_nonneg _, Int.le_refl _, by rw [e1]; omega, by omega, ?_⟩
  simp only [Int.toNat_natCast]
  refine hK _ _ (st.new ((Ext.refl' [] h).push _) ⟨[h.size], .inl ⟨h.size, [], 0, rfl, by simp, by simp, ?_⟩, by simp⟩)
  have := Blk.new h t (if len * n = 0 then #[] else zrow z (len * n))
  rw [show z = (enc x).toArray by rw [← hz]] at this
  rw [zrow_rep hw hn0] at this
  rw [List.append_nil, show z = (enc x).toArray by rw [← hz]]; exact this

theorem rsn_drop (hA : At h (rsn n enc xs s)) {l : Nat} (hl : l ≤ xs.length) : At h (rsn n enc (xs.drop l) (slR s l s.len n)) := by
  obtain ⟨S, e1, e2, k⟩ := hA
  by_cases hml : l = xs.length
  · subst hml
    exact ⟨[], by simp [slR, e1], by simp [slR]; omega, .inl ⟨by simp, rfl⟩⟩
  · rcases k with ⟨ex, _⟩ | ⟨a, ea, eS, hc, hx⟩
    · subst ex; simp at hl hml; omega
    · have e3 : ¬ s.cap = l := by omega
      refine ⟨[a.block], by simp [slR, e1], by simp [slR]; omega, .inr ⟨a.add (l * n), by simp [slR, e3, ea], by unfold Addr.add; split <;> rfl, ?_, fun i x hi j v hv => ?_⟩⟩
      · have eb : (a.add (l * n)).block = a.block := by unfold Addr.add; split <;> rfl
        rw [eb]; exact hc
      · rw [List.getElem?_drop] at hi
        have := hx (l + i) x hi j v hv
        rw [addr_add_add, show l * n + (i * n + j) = (l + i) * n + j by rw [Nat.add_mul, Nat.add_assoc]]; exact this
end
end Go.Sx
