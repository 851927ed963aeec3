/-
  More of the library's functions over slices: Grow from nil, Concat, cmp.Or. Nothing here names a program.
-/
import Derived.Test.YtchedlkmgahicaaSxW2
set_option linter.unusedVariables false
namespace Go.Sx
open Go

section
variable {P : Program} {τ : Ty} {t : TypeId} {h h' : Heap} {xs ys : List τ.T} {s s2 : Sl} {fr : Fr} {G As : List Asn} {by_ : Nat} {z : Value}

theorem Hs.wrE (st : Hs fr G As h) (k : Nat) (hk : As[k]? = some (osl t τ.enc xs s)) {i : Nat} (hi : i < xs.length) (v : τ.T) {K : HP} (hK : ∀ h', Hs fr G (As.set k (osl t τ.enc (xs.set i v) s)) h' → K h') :
    sx s.a s.len (i : Int) 1 (fun p => Sx.st1 p (τ.enc v) K) h := by
  obtain ⟨S1, p, hw⟩ := st.focus k hk
  rcases p with ⟨b, rest, eS, es, hb⟩ | ⟨_, ex, _⟩
  · subst es
    refine ⟨_, rfl, by omega, Int.ofNat_lt.2 hi, ?_⟩
    rw [Int.toNat_natCast, Nat.mul_one, addr_add]
    show Sx.st1 _ _ _ _
    rw [st_ok hb (by simp; omega)]
    have hb2 := hb.set (0 + i) (τ.enc v)
    have e3 : (xs.map τ.enc ++ rest).set (0 + i) (τ.enc v) = (xs.set i v).map τ.enc ++ rest := by
      rw [List.set_append_left _ _ (by simp; omega)]; simp
    rw [e3] at hb2
    exact hK _ (hw _ [b] _ ((Ext.refl' S1 h).set _ _ (by simp [eS])) (.inl ⟨b, rest, rfl, by simp, hb2⟩) (by simp [eS]))
  · subst ex; simp at hi

theorem addr_add_add (a : Addr) (l i : Nat) : (a.add l).add i = a.add (l + i) := by
  unfold Addr.add
  by_cases h1 : l = 0
  · subst h1; simp
  · by_cases h2 : i = 0
    · subst h2; simp
    · simp [h1, h2, Nat.add_assoc]

theorem rsl_sub {α : Type} {enc : α → Value} {xs : List α} {s : Sl} (hA : At h (rsl enc xs s)) {l m : Nat} (hlm : l ≤ m) (hm : m ≤ xs.length) : At h (rsl enc ((xs.take m).drop l) (slR s l m 1)) := by
  obtain ⟨S, e1, e2, k⟩ := hA
  have hlen : ((xs.take m).drop l).length = m - l := by simp; omega
  by_cases hml : m = l
  · subst hml
    refine ⟨[], by simp [slR], by simp [slR], .inl ⟨by simp, rfl⟩⟩
  · rcases k with ⟨ex, _⟩ | ⟨a, ea, eS, hc, hx⟩
    · subst ex; simp at hm; omega
    · have e3 : ¬ s.cap = l := by omega
      refine ⟨[a.block], by rw [hlen]; rfl, by simp [slR]; omega, .inr ⟨a.add (l * 1), by simp [slR, e3, ea], by unfold Addr.add; split <;> rfl, ?_, fun i x hi => ?_⟩⟩
      · have eb : (a.add (l * 1)).block = a.block := by unfold Addr.add; split <;> rfl
        rw [eb]; exact hc
      · rw [List.getElem?_drop, List.getElem?_take] at hi
        split at hi
        · have := hx (l + i) x hi
          rw [Nat.mul_one, addr_add_add]; exact this
        · cases hi

end
end Go.Sx
