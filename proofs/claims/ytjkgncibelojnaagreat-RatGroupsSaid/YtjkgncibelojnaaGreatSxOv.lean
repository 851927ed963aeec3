/-
  slices.overlaps, slices.Insert of one element. Nothing here names a program.
-/
import Derived.Test.YtjkgncibelojnaaGreatSxW3
import Derived.Lib.Overlaps
import Derived.Test.YtjkgncibelojnaaGreatSxN
import Derived.Test.YtjkgncibelojnaaGreatSxCp
set_option linter.unusedVariables false
namespace Go.Sx
open Go

section
variable {P : Program} {τ : Ty} {t : TypeId} {h h' : Heap} {xs ys : List τ.T} {s s2 : Sl} {fr : Fr} {G As : List Asn} {by_ : Nat} {z : Value}

end
end Go.Sx

set_option linter.unusedVariables false
set_option linter.unusedSimpArgs false
namespace Go.Sx
open Go
variable {fr : Fr} {G As : List Asn} {h : Heap} {τ : Ty} {xs : List τ.T} {s : Sl} {t : TypeId} {by_ : Nat} {z : Value}

end Go.Sx

set_option linter.unusedVariables false
namespace Go.Sx
open Go

section
variable {α : Type} {t : TypeId} {h h' : Heap} {fr : Fr} {G As : List Asn} {by_ n : Nat} {enc : α → List Value} {xs : List α} {s : Sl}

theorem rsn_drop (hA : At h (rsn n enc xs s)) {l : Nat} (hl : l ≤ xs.length) : At h (rsn n enc (xs.drop l) (slR s l s.len n)) := by
  obtain ⟨S, e1, e2, k⟩ := hA
  by_cases hml : l = xs.length
  · subst hml
    exact ⟨[], by simp [slR, e1], by simp [slR]; omega, .inl ⟨by simp, rfl⟩⟩
  · rcases k with ⟨ex, _⟩ | ⟨a, ea, eS, hc, hx⟩
    · subst ex; simp at hl hml; omega
    · have e3 : ¬ s.cap = l := by omega
      refine ⟨[a.block], by simp [slR, e1], by simp [slR]; omega, .inr ⟨a.add (l * n), by simp [slR, e3, ea], by unfold Addr.add; split <;> rfl, ?_, fun i x hi j v hv => ?_⟩⟩
      · have eb : (a.add (l * n)).block = a.block := by unfold Addr.add; split <;> rfl
        rw [eb]; exact hc
      · rw [List.getElem?_drop] at hi
        have := hx (l + i) x hi j v hv
        rw [addr_add_add, show l * n + (i * n + j) = (l + i) * n + j by rw [Nat.add_mul, Nat.add_assoc]]; exact this
end
end Go.Sx

set_option linter.unusedVariables false
set_option linter.unusedSimpArgs false
namespace Go.Sx
open Go
variable {fr : Fr} {G As : List Asn} {h : Heap} {α : Type} {n : Nat} {enc : α → List Value} {xs : List α} {s : Sl} {t : TypeId} {by_ : Nat} {z : Array Value}

def W_delN (t : TypeId) (n by_ : Nat) (z : Array Value) (s : Sl) (i j : Int) (K : Sl → HP) : HP :=
 slM ⟨s.a, s.len, s.cap⟩ i j (s.len : Int) n fun s0 =>
 brB (i == j)
 (K ⟨s.a, s.len, s.cap⟩)
 (slH ⟨s.a, s.len, s.cap⟩ i n fun s1 =>
 slL ⟨s.a, s.len, s.cap⟩ j n fun s2 =>
 apd t n by_ z ⟨s1.a, s1.len, s1.cap⟩ ⟨s2.a, s2.len, s2.cap⟩ fun s3 =>
 slB ⟨s3.a, s3.len, s3.cap⟩ (s3.len : Int) (s.len : Int) n fun s4 =>
 clr z ⟨s4.a, s4.len, s4.cap⟩ <|
 K ⟨s3.a, s3.len, s3.cap⟩)

theorem flat_erase (hw : Wide n enc) {i : Nat} (hi : i < xs.length) : (((xs.eraseIdx i).map enc).flatten) = ((xs.map enc).flatten).take (i * n) ++ ((xs.drop (i + 1)).map enc).flatten := by
  rw [List.eraseIdx_eq_take_drop_succ, List.map_append, List.flatten_append]
  congr 1
  have h1 : (xs.map enc).flatten = ((xs.take i).map enc).flatten ++ ((xs.drop i).map enc).flatten := by rw [← List.flatten_append, ← List.map_append, List.take_append_drop]
  rw [h1]
  have h2 : ((xs.take i).map enc).flatten.length = i * n := by rw [flat_len hw, List.length_take, Nat.min_eq_left (by omega)]
  rw [← h2, List.take_left]
theorem Hs.delN {K : Sl → HP} (st : Hs fr G As h) (hw : Wide n enc) (hn : 0 < n) (k : Nat) (hk : As[k]? = some (osn t n enc xs s)) (hv : ∀ x, ∀ u ∈ enc x, leafB u = true) (hz : z.size = n) (hzl : ∀ u ∈ z.toList, leafB u = true) {i : Nat} (hi : i < xs.length)
    (hK : ∀ s' h', Hs fr G (As.set k (osn t n enc (xs.eraseIdx i) s')) h' → K s' h') : W_delN t n by_ z s (i : Int) ((i + 1 : Nat) : Int) K h := by
  have hr := (st.own k hk).rsn hw
  have lcap := rsn_cap hr
  have l1 := rsn_len hr
  have hsub := rsn_drop hr (l := i + 1) (by omega)
  rw [l1] at hsub
  have hfc := rsn_first hw hsub
  obtain ⟨S1, p, hwr⟩ := st.focus k hk
  rcases p with ⟨b, rest, cap, eS, es, hrl, hb⟩ | ⟨_, ex, _⟩
  · subst es
    simp only at l1 lcap hfc
    have hfl : (xs.map enc).flatten.length = xs.length * n := flat_len hw xs
    have hdl : ((xs.drop (i + 1)).map enc).flatten.length = (xs.length - (i + 1)) * n := by rw [flat_len hw, List.length_drop]
    have m1 : (xs.length - (i + 1)) * n + (i * n + n) = xs.length * n := by
      rw [← Nat.succ_mul, ← Nat.add_mul]; congr 1; omega
    refine ⟨Int.natCast_nonneg _, Int.ofNat_le.2 lcap, Int.natCast_nonneg _, Int.ofNat_le.2 (show i + 1 ≤ xs.length by omega), Int.natCast_nonneg _, Int.ofNat_le.2 (by omega), ?_⟩
    show brB _ _ _ h
    rw [show ((i : Int) == ((i + 1 : Nat) : Int)) = false by simp; omega, brB_false]
    refine ⟨Int.natCast_nonneg _, Int.ofNat_le.2 (show i ≤ xs.length + cap by omega), ?_⟩
    refine ⟨Int.natCast_nonneg _, Int.ofNat_le.2 (show i + 1 ≤ xs.length by omega), ?_⟩
    rw [Int.toNat_natCast, Int.toNat_natCast]
    have e1 : slR ⟨some ⟨b, 0, none⟩, xs.length, xs.length + cap⟩ 0 i n = ⟨some ⟨b, 0, none⟩, i, xs.length + cap⟩ := by
      unfold slR; simp
    rw [e1]
    refine ⟨((xs.drop (i + 1)).map enc).flatten, hfc, fun hle => ?_, fun hgt => ?_⟩
    · simp only [slR] at hle ⊢
      rw [addr_add]
      refine stA_ok _ 0 hb (by rw [List.length_append, hfl, hdl]; omega) (by
        intro v hv'
        obtain ⟨l, hl, hin⟩ := List.mem_flatten.1 hv'
        obtain ⟨x, _, rfl⟩ := List.mem_map.1 hl
        exact hv x v hin) fun h' hb' x => ?_
      have e2 : i + (xs.length - (i + 1)) = xs.length - 1 := by omega
      simp only [e2]
      refine ⟨Int.natCast_nonneg _, Int.ofNat_le.2 (show xs.length ≤ xs.length + cap by omega), Int.natCast_nonneg _, Int.ofNat_le.2 (by omega), ?_⟩
      rw [Int.toNat_natCast, Int.toNat_natCast]
      have el : (xs.eraseIdx i).length = xs.length - 1 := List.length_eraseIdx_of_lt hi
      have hel : ((xs.eraseIdx i).map enc).flatten.length = (xs.length - 1) * n := by rw [flat_len hw, el]
      have m2 : (xs.length - 1) * n + n = xs.length * n := by rw [← Nat.succ_mul]; congr 1; omega
      have ec : List.take (0 + i * n + 0) ((xs.map enc).flatten ++ rest) ++ ((xs.drop (i + 1)).map enc).flatten ++ List.drop (0 + i * n + 0 + ((xs.drop (i + 1)).map enc).flatten.length) ((xs.map enc).flatten ++ rest) = ((xs.eraseIdx i).map enc).flatten ++ ((xs.map enc).flatten ++ rest).drop ((xs.length - 1) * n) := by
        rw [flat_erase hw hi, show 0 + i * n + 0 = i * n by omega, List.take_append_of_le_length (by rw [hfl]; omega), hdl]
        congr 2
        omega
      rw [ec] at hb'
      have e3 : slR ⟨some ⟨b, 0, none⟩, xs.length - 1, xs.length + cap⟩ (xs.length - 1) xs.length n = ⟨some ⟨b, (xs.length - 1) * n, none⟩, xs.length - (xs.length - 1), xs.length + cap - (xs.length - 1)⟩ := by
        unfold slR
        simp only [if_neg (show ¬ xs.length + cap = xs.length - 1 by omega), Option.map_some, addr_add, Nat.zero_add]
      rw [e3]
      unfold clr
      simp only
      rw [show xs.length - (xs.length - 1) = 1 by omega]
      have hzc : (Builtin.zeroCells z 1).toList.length = n := by simp [Builtin.zeroCells, hz]
      have hzv : ∀ v ∈ (Builtin.zeroCells z 1).toList, leafB v = true := by
        intro v hv'
        simp only [Builtin.zeroCells, Array.toList_map, List.mem_map] at hv'
        obtain ⟨j, _, rfl⟩ := hv'
        have hj : j % z.size < z.size := Nat.mod_lt _ (by omega)
        rw [getElem!_pos z _ hj]
        exact hzl _ (Array.mem_toList_iff.2 (Array.getElem_mem hj))
      generalize (Builtin.zeroCells z 1).toList = Z at hzc hzv
      have hDl : (((xs.map enc).flatten ++ rest).drop ((xs.length - 1) * n)).length = n + cap * n := by
        rw [List.length_drop, List.length_append, hfl, hrl]; omega
      generalize ((xs.map enc).flatten ++ rest).drop ((xs.length - 1) * n) = D at hb' hDl
      refine stA_ok _ 0 hb' (by rw [List.length_append, hel, hDl, hzc]; omega) hzv fun h2 hb2 x2 => ?_
      have e4 : List.take ((xs.length - 1) * n + 0) (((xs.eraseIdx i).map enc).flatten ++ D) ++ Z ++ List.drop ((xs.length - 1) * n + 0 + Z.length) (((xs.eraseIdx i).map enc).flatten ++ D) = ((xs.eraseIdx i).map enc).flatten ++ (Z ++ D.drop n) := by
        rw [Nat.add_zero, ← hel, List.take_left, hzc, ← List.drop_drop, List.drop_left, List.append_assoc]
      rw [e4] at hb2
      refine hK _ _ (hwr (osn t n enc (xs.eraseIdx i) ⟨some ⟨b, 0, none⟩, xs.length - 1, xs.length + cap⟩) [b] _ ((by rw [eS]; exact x.trans x2 (fun y hy => .inl hy)) : Ext S1 h h2) (.inl ⟨b, Z ++ D.drop n, cap + 1, rfl, ?_, ?_, hb2⟩) (by simp [eS]))
      · rw [el]; congr 1; omega
      · rw [List.length_append, hzc, List.length_drop, hDl, Nat.succ_mul]; omega
    · simp only [slR] at hgt; omega
  · subst ex; simp at hi
end Go.Sx
