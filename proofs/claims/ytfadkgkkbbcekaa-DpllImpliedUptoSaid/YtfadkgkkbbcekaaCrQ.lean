/-
  How many valid sets there are; sets as numbers; in plain Lean.
-/
import Derived.Test.YtfadkgkkbbcekaaCrP
import Derived.Test.YtfadkgkkbbcekaaSxW3
set_option linter.unusedVariables false
namespace Go.Cr

end Go.Cr

set_option linter.unusedVariables false
namespace Go.Sx
open Go Go.Cr

theorem set_map_range' {α : Type} (f : Nat → α) (n i : Nat) (z : α) (hi : i < n) : (((List.range i).map f) ++ List.replicate (n - i) z).set i (f i) = ((List.range (i + 1)).map f) ++ List.replicate (n - (i + 1)) z := by
  rw [List.set_append_right _ _ (by simp), List.range_succ, List.map_append]
  simp only [List.length_map, List.length_range, Nat.sub_self, List.map_cons, List.map_nil]
  obtain ⟨q, hq⟩ : ∃ q, n - i = q + 1 := ⟨n - i - 1, by omega⟩
  have e : n - (i + 1) = q := by omega
  rw [hq, e, List.replicate_succ, List.set_cons_zero]; simp
end Go.Sx

set_option linter.unusedVariables false
namespace Go.Sx
open Go

def rsn {α : Type} (n : Nat) (enc : α → List Value) (xs : List α) (s : Sl) : Asn where
  P := fun S h => s.len = xs.length ∧ s.len ≤ s.cap ∧ ((xs = [] ∧ S = []) ∨ ∃ a, s.a = some a ∧ S = [a.block] ∧ isCells h a.block ∧ ∀ i x, xs[i]? = some x → ∀ j v, (enc x)[j]? = some v → cell h (a.add (i * n + j)) = some v)
  loc := fun {S h h'} ⟨e1, e2, k⟩ hz hk => ⟨e1, e2, k.imp id fun ⟨a, ea, eS, hc, hx⟩ => by
    have eb := hk a.block (by simp [eS])
    refine ⟨a, ea, eS, ?_, fun i x hi j v hv => ?_⟩
    · exact hc.of_eq eb
    · have := hx i x hi j v hv
      unfold cell at this ⊢
      have eb2 : (a.add (i * n + j)).block = a.block := by unfold Addr.add; split <;> rfl
      rw [eb2] at this ⊢
      rw [eb]; exact this⟩
  cel := fun {S h} ⟨e1, e2, k⟩ b hb => by
    rcases k with ⟨_, e⟩ | ⟨a, _, e, hc, _⟩
    · subst e; cases hb
    · subst e; simp at hb; subst hb; exact hc

def osn {α : Type} (t : TypeId) (n : Nat) (enc : α → List Value) (xs : List α) (s : Sl) : Asn where
  P := fun S h => (∃ b rest cap, S = [b] ∧ s = ⟨some ⟨b, 0, none⟩, xs.length, xs.length + cap⟩ ∧ rest.length = cap * n ∧ Blk h b t ((xs.map enc).flatten ++ rest)) ∨ (S = [] ∧ xs = [] ∧ s.len = 0 ∧ s.cap = 0)
  loc := fun {S h h'} k hz hk => k.imp (fun ⟨b, rest, cap, e, es, hr, hb⟩ => ⟨b, rest, cap, e, es, hr, by unfold Blk; rw [hk b (by simp [e])]; exact hb⟩) id
  cel := fun {S h} k b hb => by
    rcases k with ⟨b', rest, cap, e, es, hr, hk⟩ | ⟨e, _⟩
    · subst e; simp at hb; subst hb; exact hk.isCells
    · subst e; cases hb

def Wide {α : Type} (n : Nat) (enc : α → List Value) : Prop := ∀ x, (enc x).length = n

section
variable {α : Type} {n : Nat} {enc : α → List Value} {xs : List α} {s : Sl} {fr : Fr} {G As : List Asn} {h h' : Heap} {A : Asn} {b i : Nat} {t : TypeId} {c : List Value}

theorem rsn_len (hA : At h (rsn n enc xs s)) : s.len = xs.length := let ⟨_, e, _⟩ := hA; e
theorem flat_get (hw : Wide n enc) : ∀ {xs : List α} {i : Nat} {x : α}, xs[i]? = some x → ∀ {j : Nat} {v : Value} (R : List Value), (enc x)[j]? = some v → ((xs.map enc).flatten ++ R)[i * n + j]? = some v
  | y :: ys, 0, x, hi, j, v, R, hv => by
    simp at hi; subst hi
    have hj : j < (enc y).length := (List.getElem?_eq_some_iff.1 hv).1
    simp only [List.map_cons, List.flatten_cons, Nat.zero_mul, Nat.zero_add, List.append_assoc]
    rw [List.getElem?_append_left hj]; exact hv
  | y :: ys, i + 1, x, hi, j, v, R, hv => by
    simp only [List.map_cons, List.flatten_cons, List.append_assoc]
    rw [List.getElem?_append_right (by rw [hw y, Nat.succ_mul]; omega), hw y]
    have e : (i + 1) * n + j - n = i * n + j := by rw [Nat.succ_mul]; omega
    rw [e]
    exact flat_get hw (by simpa using hi) R hv

theorem osn_rsn {S : List Nat} (hw : Wide n enc) (p : (osn t n enc xs s).P S h) : (rsn n enc xs s).P S h := by
  rcases p with ⟨b, rest, cap, e, es, hr, hb⟩ | ⟨e, ex, e1, e2⟩
  · subst es
    refine ⟨rfl, by simp, .inr ⟨⟨b, 0, none⟩, rfl, e, hb.isCells, fun i x hi j v hv => ?_⟩⟩
    rw [addr_add, cell_blk hb, Nat.zero_add]
    exact flat_get hw hi rest hv
  · exact ⟨by simp [ex, e1], by omega, .inl ⟨ex, e⟩⟩
theorem At.rsn (hw : Wide n enc) (hA : At h (osn t n enc xs s)) : At h (rsn n enc xs s) := let ⟨S, p⟩ := hA; ⟨S, osn_rsn hw p⟩
end
end Go.Sx

set_option linter.unusedVariables false
namespace Go.Sx
open Go

section
variable {P : Program} {τ : Ty} {t : TypeId} {n : Nat} {h h' : Heap} {xs ys : List τ.T} {s s2 : Sl} {fr : Fr} {G As : List Asn} {by_ : Nat}

end
end Go.Sx

set_option linter.unusedVariables false
namespace Go.Sx
open Go

section
variable {τ : Ty} {t : TypeId} {h h' : Heap} {fr : Fr} {G As : List Asn} {by_ : Nat}

theorem Hs.mks1 (st : Hs fr G As h) {n : Nat} {z : τ.T} {K : Sl → HP} (hn : n * by_ ≤ 140737488355328) (hby : 0 < by_) (hK : ∀ s' h', Hs fr G (As ++ [osl t τ.enc (List.replicate n z) s']) h' → K s' h') :
    Sx.mks t 1 by_ #[τ.enc z] (n : Int) (n : Int) K h := by
  have hn2 : n ≤ 140737488355328 := Nat.le_trans (Nat.le_mul_of_pos_right n hby) hn
  have e1 : (by_ : Int) * (n : Int) = ((n * by_ : Nat) : Int) := by rw [Int.natCast_mul, Int.mul_comm]
  refine ⟨Int.natCast_nonneg _, Int.le_refl _, by rw [e1]; omega, by omega, ?_⟩
  simp only [Int.toNat_natCast]
  refine hK _ _ (st.new ((Ext.refl' [] h).push _) ⟨[h.size], .inl ⟨h.size, [], rfl, by simp, ?_⟩, by simp⟩)
  have := Blk.new h t (if n * 1 = 0 then #[] else zrow #[τ.enc z] (n * 1))
  have e : (if n * 1 = 0 then (#[] : Array Value) else zrow #[τ.enc z] (n * 1)).toList = List.map τ.enc (List.replicate n z) ++ [] := by
    rw [Nat.mul_one, List.append_nil, List.map_replicate]
    by_cases h0 : n = 0
    · subst h0; rfl
    · rw [if_neg h0]
      apply List.ext_getElem
      · simp [zrow]
      · intro i h1 h2; simp [zrow, Nat.mod_one]
  rw [e] at this; exact this
end
end Go.Sx
