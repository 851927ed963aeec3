/-
  A part of what is owned by itself, for a call that turns it and brings more. Nothing here names a program.
-/
import Derived.Test.YtchedlkmgahicaaSxSg
import Derived.Test.YtchedlkmgahicaaSxN
set_option linter.unusedVariables false
namespace Go.Sx
open Go

theorem brT {b : Bool} {A B : HP} {h : Heap} (e : b = true) (hA : A h) : brB b A B h := by subst e; exact hA
theorem brF {b : Bool} {A B : HP} {h : Heap} (e : b = false) (hB : B h) : brB b A B h := by subst e; exact hB

section
variable {fr : Fr} {G As : List Asn} {h h' : Heap} {A : Asn}

theorem Hs.freezeR : ∀ {Bs As : List Asn} {G : List Asn}, Hs fr G (As ++ Bs) h → Hs fr (G ++ Bs) As h
  | [], As, G, st => by simpa using st
  | B :: Bs, As, G, st => by
    have st1 := st.freeze As.length (A := B) (by simp)
    rw [show (As ++ B :: Bs).eraseIdx As.length = As ++ Bs by rw [List.eraseIdx_append_of_length_le (Nat.le_refl _)]; simp] at st1
    have := Hs.freezeR st1
    simpa using this

theorem Hs.fzm (st : Hs fr G As h) (hA : A ∈ G) : At h A := by
  obtain ⟨k, hk⟩ := List.getElem?_of_mem hA
  exact st.fz k hk

end
end Go.Sx

set_option linter.unusedVariables false
set_option linter.unusedSimpArgs false
namespace Go.Sx
open Go

def bothA (A B : Asn) : Asn where
  P := fun S h => ∃ S1 S2, A.P S1 h ∧ B.P S2 h ∧ ∀ b, b ∈ S ↔ b ∈ S1 ∨ b ∈ S2
  loc := fun {S h h'} ⟨S1, S2, a, b, m⟩ hz hk => ⟨S1, S2, A.loc a hz fun x hx => hk x ((m x).2 (.inl hx)), B.loc b hz fun x hx => hk x ((m x).2 (.inr hx)), m⟩
  cel := fun {S h} ⟨S1, S2, a, b, m⟩ x hx => ((m x).1 hx).elim (A.cel a x) (B.cel b x)

section
variable {α : Type} {n : Nat} {enc : α → List Value} {xs : List α} {s : Sl} {h h' : Heap} {fr : Fr} {G As : List Asn} {t : TypeId} {b : Nat} {A B : Asn}
theorem bothA_r (hA : At h (bothA A B)) : At h B := let ⟨_, _, S2, _, b, _⟩ := hA; ⟨S2, b⟩
theorem Hs.fstB (st : Hs fr G As h) (k : Nat) (hk : As[k]? = some (bothA A B)) : Hs fr G (As.set k A) h := by
  obtain ⟨S1, ⟨T1, T2, a, b, m⟩, hw⟩ := st.focus k hk
  exact hw A T1 h (Ext.refl' _ _) a fun x hx => .inl ((m x).2 (.inl hx))

theorem Hs.apdB {v : α} {by_ : Nat} {z : Array Value} {K : Sl → HP} (st : Hs fr G As h) (hw : Wide n enc) (hn : 0 < n) (k kx : Nat) (hk : As[k]? = some (osn t n enc xs s)) (hkx : As[kx]? = some (cl b t (enc v))) (hne : k ≠ kx)
    (hv : ∀ u ∈ enc v, leafB u = true) (hlen : (xs.length + 1) * by_ ≤ 140737488355328) (hby : 0 < by_) (hz : z.size = n)
    (hK : ∀ s' h', Hs fr G (As.set k (bothA (osn t n enc xs s) (rsn n enc (xs ++ [v]) s'))) h' → K s' h') : Sx.apd t n by_ z s ⟨some ⟨b, 0, none⟩, 1, 1⟩ K h := by
  have hx := st.blk kx hkx
  have hl := osn_len (st.own k hk)
  obtain ⟨S1, p, hwr⟩ := st.focus k hk
  have hf := osn_first hw p
  refine ⟨enc v, ⟨by simp [hw v], CellsAt_blk' _ hx 0 fun j hj => by simp⟩, fun hle => ?_, fun hgt => ?_⟩
  · rcases p with ⟨b', rest, cap, eS, es, hr, hb⟩ | ⟨_, _, e1, e2⟩
    · subst es
      simp only at hle hl ⊢
      have hc0 : 0 < cap := by omega
      have hrl : n ≤ rest.length := by rw [hr]; exact Nat.le_mul_of_pos_left n hc0
      rw [addr_add]
      refine stA_ok _ 0 hb (by rw [List.length_append, flat_len hw, hw v]; omega) hv fun h' hb' x => ?_
      have e : List.take (0 + xs.length * n + 0) ((xs.map enc).flatten ++ rest) ++ enc v ++ List.drop (0 + xs.length * n + 0 + (enc v).length) ((xs.map enc).flatten ++ rest) = ((xs ++ [v]).map enc).flatten ++ rest.drop n := by
        have e1 : 0 + xs.length * n + 0 = (xs.map enc).flatten.length := by rw [flat_len hw]; omega
        rw [e1, List.take_left, hw v, ← List.drop_drop, List.drop_left]
        simp
      rw [e] at hb'
      have hb2 : Blk h' b' t ((xs.map enc).flatten ++ (enc v ++ rest.drop n)) := by simpa using hb'
      have o1 : (osn t n enc xs ⟨some ⟨b', 0, none⟩, xs.length, xs.length + cap⟩).P [b'] h' := .inl ⟨b', enc v ++ rest.drop n, cap, rfl, rfl, by
        rw [List.length_append, hw v, List.length_drop, hr]
        have : cap * n = (cap - 1) * n + n := by
          obtain ⟨q, rfl⟩ : ∃ q, cap = q + 1 := ⟨cap - 1, by omega⟩
          rw [Nat.succ_mul]; rfl
        omega, hb2⟩
      have o2 : (osn t n enc (xs ++ [v]) ⟨some ⟨b', 0, none⟩, xs.length + 1, xs.length + cap⟩).P [b'] h' := .inl ⟨b', rest.drop n, cap - 1, rfl, by simp; omega, by rw [List.length_drop, hr, Nat.sub_mul, Nat.one_mul], hb'⟩
      exact hK _ _ (hwr (bothA _ _) [b'] _ (by rw [eS]; exact x) ⟨[b'], [b'], o1, osn_rsn hw o2, fun y => by simp⟩ (by simp [eS]))
    · exfalso; simp only [e1, e2] at hle; omega
  · simp only at hgt ⊢
    rw [hl] at hgt ⊢
    refine ⟨hlen, hby, ?_⟩
    rw [hl] at hf
    refine ⟨_, hf, fun nc h1 h2 => ?_⟩
    have x1 := (Ext.refl' [] h).push (.cells (((xs.map enc).flatten.toArray ++ (enc v).toArray) ++ Builtin.zeroCells z (nc - (xs.length + 1))) t)
    have o1 := Asn.ext p x1 (by simp)
    have o2 : (osn t n enc (xs ++ [v]) ⟨some ⟨h.size, 0, none⟩, xs.length + 1, nc⟩).P [h.size] (h.push (.cells (((xs.map enc).flatten.toArray ++ (enc v).toArray) ++ Builtin.zeroCells z (nc - (xs.length + 1))) t)) := by
      refine .inl ⟨h.size, (Builtin.zeroCells z (nc - (xs.length + 1))).toList, nc - (xs.length + 1), rfl, ?_, ?_, ?_⟩
      · have h1' : xs.length + 1 ≤ nc := h1
        simp; omega
      · simp [Builtin.zeroCells, hz]
      · have := Blk.new h t (((xs.map enc).flatten.toArray ++ (enc v).toArray) ++ Builtin.zeroCells z (nc - (xs.length + 1)))
        simpa using this
    exact hK _ _ (hwr (bothA _ _) (S1 ++ [h.size]) _ ((Ext.refl' S1 h).push _) ⟨S1, [h.size], o1, osn_rsn hw o2, fun y => by simp⟩ (fun y hy => by
      rcases List.mem_append.1 hy with q | q
      · exact .inl q
      · simp only [List.mem_singleton] at q; exact .inr (by omega)))

theorem Hs.apdB1 {α : Type} {enc : α → Value} {xs : List α} {v : α} {by_ : Nat} {z : Array Value} {K : Sl → HP} (st : Hs fr G As h) (k kx : Nat) (hk : As[k]? = some (osl t enc xs s)) (hkx : As[kx]? = some (cl b t [enc v])) (hne : k ≠ kx)
    (hv : leafB (enc v) = true) (hlen : (xs.length + 1) * by_ ≤ 140737488355328) (hby : 0 < by_) (hz : z.size = 1)
    (hK : ∀ s' h', Hs fr G (As.set k (bothA (osl t enc xs s) (rsl enc (xs ++ [v]) s'))) h' → K s' h') : Sx.apd t 1 by_ z s ⟨some ⟨b, 0, none⟩, 1, 1⟩ K h := by
  have hx := st.blk kx hkx
  have hl := osl_len (st.own k hk)
  obtain ⟨S1, p, hw⟩ := st.focus k hk
  refine ⟨[enc v], ⟨rfl, CellsAt_blk' _ hx 0 (by intro j hj; simp at hj; subst hj; rfl)⟩, fun hle => ?_, fun hgt => ?_⟩
  · rcases p with ⟨b', rest, eS, es, hb⟩ | ⟨_, _, e1, e2⟩
    · subst es
      simp only at hle hl ⊢
      simp only [stA, hv, Nat.mul_one, addr_add, Nat.zero_add, Nat.add_zero]
      have hlr : 0 < rest.length := by omega
      rw [st_ok hb (by simp; omega)]
      have hb1 := hb.set xs.length (enc v)
      have e : (List.map enc xs ++ rest).set xs.length (enc v) = List.map enc (xs ++ [v]) ++ rest.tail := by
        cases rest with
        | nil => simp at hlr
        | cons r rest => simp
      rw [e] at hb1
      have hb2 : Blk (setC h ⟨b', xs.length, none⟩ (enc v)) b' t (xs.map enc ++ (enc v :: rest.tail)) := by simpa using hb1
      have o1 : (osl t enc xs ⟨some ⟨b', 0, none⟩, xs.length, xs.length + rest.length⟩).P [b'] (setC h ⟨b', xs.length, none⟩ (enc v)) := .inl ⟨b', enc v :: rest.tail, rfl, by simp; omega, hb2⟩
      have o2 : (osl t enc (xs ++ [v]) ⟨some ⟨b', 0, none⟩, xs.length + 1, xs.length + rest.length⟩).P [b'] (setC h ⟨b', xs.length, none⟩ (enc v)) := .inl ⟨b', rest.tail, rfl, by simp; omega, hb1⟩
      exact hK _ _ (hw (bothA _ _) [b'] _ ((Ext.refl' S1 h).set _ _ (by simp [eS])) ⟨[b'], [b'], o1, osl_rsl o2, fun y => by simp⟩ (by simp [eS]))
    · exfalso; simp only [e1, e2] at hle; omega
  · simp only [hl] at hgt ⊢
    refine ⟨hlen, hby, ?_⟩
    have hf : FirstCells h s.a (xs.length * 1) (xs.map enc) := by
      rcases p with ⟨b', rest, eS, es, hb⟩ | ⟨_, ex, e1, e2⟩
      · subst es
        exact ⟨by simp, CellsAt_blk' _ hb 0 (by intro j hj; simp at hj ⊢; rw [List.getElem?_append_left (by simpa using hj)]; simp)⟩
      · subst ex
        cases s.a with
        | none => rfl
        | some a => exact ⟨rfl, trivial⟩
    refine ⟨_, hf, fun nc h1 h2 => ?_⟩
    have x1 := (Ext.refl' [] h).push (.cells (((xs.map enc).toArray ++ #[enc v]) ++ Builtin.zeroCells z (nc - (xs.length + 1))) t)
    have o1 := Asn.ext p x1 (by simp)
    have o2 : (osl t enc (xs ++ [v]) ⟨some ⟨h.size, 0, none⟩, xs.length + 1, nc⟩).P [h.size] (h.push (.cells (((xs.map enc).toArray ++ #[enc v]) ++ Builtin.zeroCells z (nc - (xs.length + 1))) t)) := by
      refine .inl ⟨h.size, (Builtin.zeroCells z (nc - (xs.length + 1))).toList, rfl, ?_, ?_⟩
      · have h1' : xs.length + 1 ≤ nc := by simpa [hl] using h1
        simp [Builtin.zeroCells, hz]
        omega
      · have := Blk.new h t (((xs.map enc).toArray ++ #[enc v]) ++ Builtin.zeroCells z (nc - (xs.length + 1)))
        simpa using this
    exact hK _ _ (hw (bothA _ _) (S1 ++ [h.size]) _ ((Ext.refl' S1 h).push _) ⟨S1, [h.size], o1, osl_rsl o2, fun y => by simp⟩ (fun y hy => by
      rcases List.mem_append.1 hy with q | q
      · exact .inl q
      · simp only [List.mem_singleton] at q; exact .inr (by omega)))

theorem flat_set1 (hw : Wide n enc) : ∀ {xs : List α} {i j : Nat} {x : α} {v : Value} (hi : i < xs.length), j < n → enc x = (enc xs[i]).set j v → ((xs.map enc).flatten).set (i * n + j) v = ((xs.set i x).map enc).flatten
  | y :: ys, 0, j, x, v, _, hj, hx => by
    simp only [List.getElem_cons_zero] at hx
    simp only [List.map_cons, List.flatten_cons, Nat.zero_mul, Nat.zero_add, List.set_cons_zero]
    rw [List.set_append_left _ _ (by rw [hw y]; exact hj), hx]
  | y :: ys, i + 1, j, x, v, hi, hj, hx => by
    simp only [List.getElem_cons_succ] at hx
    simp only [List.map_cons, List.flatten_cons, List.set_cons_succ]
    have e : (i + 1) * n + j - (enc y).length = i * n + j := by rw [hw y, Nat.succ_mul]; omega
    rw [List.set_append_right _ _ (by rw [hw y, Nat.succ_mul]; omega), e, flat_set1 hw (by simpa using hi) hj hx]
theorem Hs.wrF {K : HP} (st : Hs fr G As h) (hw : Wide n enc) (k : Nat) (hk : As[k]? = some (osn t n enc xs s)) {i : Nat} (hi : i < xs.length) (j : Nat) (hj : j < n) (x : α) (v : Value) (hx : enc x = (enc xs[i]).set j v)
    (hK : ∀ h', Hs fr G (As.set k (osn t n enc (xs.set i x) s)) h' → K h') : sx s.a s.len (i : Int) n (fun p => Sx.st1 (p.add j) v <| K) h := by
  obtain ⟨S1, p, hwr⟩ := st.focus k hk
  rcases p with ⟨b, rest, cap, eS, es, hr, hb⟩ | ⟨_, ex, _⟩
  · subst es
    refine ⟨_, rfl, Int.natCast_nonneg _, Int.ofNat_lt.2 hi, ?_⟩
    rw [Int.toNat_natCast]
    simp only [addr_add, Nat.zero_add]
    have hfl := flat_len hw xs
    have hle : i * n + n ≤ xs.length * n := by rw [← Nat.succ_mul]; exact Nat.mul_le_mul_right _ hi
    rw [st_ok hb (by simp [hfl]; omega)]
    have hb1 := hb.set (i * n + j) v
    rw [List.set_append_left _ _ (by rw [hfl]; omega), flat_set1 hw hi hj hx] at hb1
    exact hK _ (hwr (osn t n enc (xs.set i x) ⟨some ⟨b, 0, none⟩, xs.length, xs.length + cap⟩) [b] _ ((Ext.refl' S1 h).set _ _ (by simp [eS])) (.inl ⟨b, rest, cap, rfl, by simp, hr, hb1⟩) (by simp [eS]))
  · subst ex; simp at hi
theorem Hs.wrF0 {K : HP} (st : Hs fr G As h) (hw : Wide n enc) (k : Nat) (hk : As[k]? = some (osn t n enc xs s)) {i : Nat} (hi : i < xs.length) (hj : 0 < n) (x : α) (v : Value) (hx : enc x = (enc xs[i]).set 0 v)
    (hK : ∀ h', Hs fr G (As.set k (osn t n enc (xs.set i x) s)) h' → K h') : sx s.a s.len (i : Int) n (fun p => Sx.st1 p v <| K) h := by
  have hs : ∃ b, s.a = some ⟨b, 0, none⟩ := by
    obtain ⟨S, p⟩ := st.own k hk
    rcases p with ⟨b, _, _, _, es, _⟩ | ⟨_, ex, _⟩
    · exact ⟨b, by rw [es]⟩
    · subst ex; simp at hi
  obtain ⟨b, hb⟩ := hs
  obtain ⟨a, e1, e2, e3, e4⟩ := st.wrF hw k hk hi 0 hj x v hx hK
  refine ⟨a, e1, e2, e3, ?_⟩
  rw [hb] at e1
  cases e1
  simpa only [addr_add, Nat.add_zero] using e4
end
end Go.Sx
