/-
  append(s, make(..)...), copy, append of a slice of wide elements, stores into wide elements. Nothing here names a program.
-/
import Derived.Test.YtjkgncibelojnaaGreatSxN
import Derived.Test.YtjkgncibelojnaaGreatSxSort
import Derived.Test.YtjkgncibelojnaaGreatClF
set_option linter.unusedVariables false
namespace Go.Sx
open Go

section
variable {τ : Ty} {t : TypeId} {h h' : Heap} {fr : Fr} {G As : List Asn} {by_ : Nat} {s s2 : Sl} {xs ys : List τ.T}

theorem lastA (As : List Asn) (A : Asn) : (As ++ [A])[As.length]? = some A := by simp
theorem Hs.dropL {A : Asn} (st : Hs fr G (As ++ [A]) h) : Hs fr G As h := by
  have := st.drop As.length (lastA As A)
  rwa [List.eraseIdx_append_of_length_le (Nat.le_refl _), Nat.sub_self, List.eraseIdx_cons_zero, List.append_nil] at this
theorem Hs.dropR : ∀ {Bs As : List Asn}, Hs fr G (As ++ Bs) h → Hs fr G As h
  | [], As, st => by rwa [List.append_nil] at st
  | B :: Bs, As, st => by
    have : Hs fr G ((As ++ [B]) ++ Bs) h := by rwa [List.append_assoc]
    exact (Hs.dropR this).dropL
theorem ldRow {τ : Ty} {b : Nat} {t : TypeId} {x : τ.T} {K : τ.T → HP} (hb : Blk h b t (τ.vals x)) (hK : K x h) : ldA τ ⟨b, 0, none⟩ K h := ⟨x, CellsAt_blk' _ hb 0 (fun j hj => by simp), hK⟩
theorem Hs.nwX (st : Hs fr G As h) {cs : Array Value} {K : Nat → HP} (hK : ∀ b h', Ext [] h h' → Hs fr G (As ++ [cl b t cs.toList]) h' → K b h') : Sx.nw cs t K h :=
  hK h.size _ ((Ext.refl' [] h).push _) (st.new ((Ext.refl' [] h).push _) ⟨[h.size], ⟨rfl, Blk.new h t cs⟩, by simp⟩)
theorem zc_one (v : Value) (n : Nat) : (if n * 1 = 0 then (#[] : Array Value) else Builtin.zeroCells #[v] n).toList = List.replicate n v := by
  by_cases h0 : n = 0
  · subst h0; rfl
  · rw [if_neg (by omega)]
    apply List.ext_getElem
    · simp [Builtin.zeroCells]
    · intro i h1 h2; simp [Builtin.zeroCells, Nat.mod_one]

theorem Hs.apz (st : Hs fr G As h) (k : Nat) (hk : As[k]? = some (osl t τ.enc xs s)) {n : Nat} {z : τ.T} {K : Sl → HP} (hleaf : leafB (τ.enc z) = true)
    (hlen : (xs.length + n) * by_ ≤ 140737488355328) (hby : 0 < by_) (hK : ∀ s' h', Hs fr G (As.set k (osl t τ.enc (xs ++ List.replicate n z) s')) h' → K s' h') :
    Sx.apz t 1 by_ #[τ.enc z] s (n : Int) K h := by
  have hl := osl_len (st.own k hk)
  obtain ⟨S1, p, hw⟩ := st.focus k hk
  have e1 : (n : Int) * (by_ : Int) = ((n * by_ : Nat) : Int) := by rw [Int.natCast_mul]
  have hn : n * by_ ≤ 140737488355328 := Nat.le_trans (Nat.mul_le_mul_right _ (by omega)) hlen
  refine ⟨Int.natCast_nonneg _, by rw [e1]; omega, hby, by decide, ?_, ?_⟩
  · simp only [Int.toNat_natCast, zc_one]
    intro hle
    rcases p with ⟨b', rest, eS, es, hb⟩ | ⟨eS, ex, e1, e2⟩
    · subst es
      simp only at hle hl ⊢
      rw [addr_add]
      refine stA_ok _ 0 hb (by simp; omega) (by intro v hv; obtain ⟨_, rfl⟩ := List.mem_replicate.1 hv; exact hleaf) fun h' hb' x => ?_
      refine hK _ _ (hw (osl t τ.enc (xs ++ List.replicate n z) ⟨some ⟨b', 0, none⟩, xs.length + n, xs.length + rest.length⟩) [b'] _ (by rw [eS]; exact x) (.inl ⟨b', rest.drop n, rfl, ?_, ?_⟩) (by simp [eS]))
      · simp; omega
      · have e : List.take (0 + xs.length * 1 + 0) (List.map τ.enc xs ++ rest) ++ List.replicate n (τ.enc z) ++ List.drop (0 + xs.length * 1 + 0 + (List.replicate n (τ.enc z)).length) (List.map τ.enc xs ++ rest) = List.map τ.enc (xs ++ List.replicate n z) ++ rest.drop n := by
          have e1 : 0 + xs.length * 1 + 0 = (List.map τ.enc xs).length := by simp
          rw [e1, List.take_left, List.length_replicate, ← List.drop_drop, List.drop_left]
          simp
        rw [e] at hb'; exact hb'
    · subst ex
      have hn0 : n = 0 := by simp only [e1, e2] at hle; omega
      subst hn0
      obtain ⟨sa, sl, sc⟩ := s
      simp only at e1 e2
      subst e1; subst e2
      have key : ∀ a, K ⟨a, 0, 0⟩ h := fun a => hK _ _ (hw (osl t τ.enc ([] ++ List.replicate 0 z) ⟨a, 0, 0⟩) [] h (Ext.refl' _ _) (.inr ⟨rfl, rfl, rfl, rfl⟩) (by simp))
      cases sa with
      | none => exact key none
      | some a => exact key (some a)
  · simp only [Int.toNat_natCast]
    intro hgt
    simp only [hl] at hgt ⊢
    refine ⟨hlen, ?_⟩
    have key : FirstCells h s.a (xs.length * 1) (xs.map τ.enc) := by
      have := rsl_first (st.own k hk).rsl
      rwa [hl] at this
    refine ⟨_, key, fun nc h1 h2 => ?_⟩
    refine hK _ _ (hw (osl t τ.enc (xs ++ List.replicate n z) ⟨some ⟨h.size, 0, none⟩, xs.length + n, nc⟩) [h.size] _ ((Ext.refl' S1 h).push _) (.inl ⟨h.size, (Builtin.zeroCells #[τ.enc z] (nc - (xs.length + n))).toList, rfl, ?_, ?_⟩) (by simp))
    · have h1' : xs.length + n ≤ nc := h1
      simp [Builtin.zeroCells]; omega
    · have := Blk.new h t (((xs.map τ.enc).toArray ++ (if n * 1 = 0 then #[] else Builtin.zeroCells #[τ.enc z] n)) ++ Builtin.zeroCells #[τ.enc z] (nc - (xs.length + n)))
      rw [Array.toList_append, Array.toList_append, zc_one] at this
      simpa using this

end

section
variable {α : Type} {n : Nat} {enc : α → List Value} {xs ys : List α} {s s2 : Sl} {fr : Fr} {G As : List Asn} {h h' : Heap} {A : Asn} {b i : Nat} {t : TypeId} {c : List Value}

end
end Go.Sx

set_option linter.unusedVariables false
namespace Go.Sx
open Go.Cl

structure TotC {α : Type} (M : α → Prop) (c : α → α → Int) : Prop where
  zero : ∀ {a b}, M a → M b → (c a b = 0 ↔ a = b)
  anti : ∀ {a b}, M a → M b → (c a b < 0 ↔ c b a > 0)
  trans : ∀ {a b d}, M a → M b → M d → c a b ≤ 0 → c b d ≤ 0 → c a d ≤ 0

section
variable {α : Type} {M : α → Prop} {c : α → α → Int}

theorem TotC.self (T : TotC M c) {a : α} (h : M a) : c a a = 0 := (T.zero h h).2 rfl
theorem TotC.lt_trans (T : TotC M c) {a b d : α} (ha : M a) (hb : M b) (hd : M d) (h : c a b < 0) (k : c b d < 0) : c a d < 0 := by
  have h1 := T.trans ha hb hd (by omega) (by omega)
  rcases Int.lt_or_eq_of_le h1 with h2 | h2
  · exact h2
  · have e := (T.zero ha hd).1 h2
    subst e
    have := (T.anti hb ha).1 k; omega
def StrictC (c : α → α → Int) (L : List α) : Prop := L.Pairwise fun a b => c a b < 0

theorem StrictC.unique (T : TotC M c) : ∀ {L N : List α}, (∀ x ∈ L, M x) → (∀ x ∈ N, M x) → StrictC c L → StrictC c N → (∀ x, x ∈ L ↔ x ∈ N) → L = N
  | [], [], _, _, _, _, _ => rfl
  | [], y :: N, _, _, _, _, h => by have := (h y).2 (by simp); cases this
  | x :: L, [], _, _, _, _, h => by have := (h x).1 (by simp); cases this
  | x :: L, y :: N, hL, hN, s1, s2, h => by
    obtain ⟨a1, a2⟩ := List.pairwise_cons.1 s1
    obtain ⟨b1, b2⟩ := List.pairwise_cons.1 s2
    have mx := hL x (by simp); have my := hN y (by simp)
    have e : x = y := by
      rcases List.mem_cons.1 ((h x).1 (by simp)) with q | q
      · exact q
      · rcases List.mem_cons.1 ((h y).2 (by simp)) with q2 | q2
        · exact q2.symm
        · have h1 := b1 x q
          have h2 := a1 y q2
          have := (T.anti mx my).1 h2; omega
    subst e
    have hx : x ∉ L := fun q => by have := a1 x q; rw [T.self mx] at this; omega
    have hy : x ∉ N := fun q => by have := b1 x q; rw [T.self mx] at this; omega
    congr 1
    refine StrictC.unique T (fun z hz => hL z (by simp [hz])) (fun z hz => hN z (by simp [hz])) a2 b2 fun z => ?_
    have := h z
    simp only [List.mem_cons] at this
    constructor
    · intro q
      rcases this.1 (.inr q) with e | e
      · subst e; exact absurd q hx
      · exact e
    · intro q
      rcases this.2 (.inr q) with e | e
      · subst e; exact absurd q hy
      · exact e

end
end Go.Sx
