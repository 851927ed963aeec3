/-
  append(s, make(..)...), copy, append of a slice of wide elements, stores into wide elements. Nothing here names a program.
-/
import Derived.Test.YtchedlkmgahicaaSxN
set_option linter.unusedVariables false
namespace Go.Sx
open Go

section
variable {τ : Ty} {t : TypeId} {h h' : Heap} {fr : Fr} {G As : List Asn} {by_ : Nat} {s s2 : Sl} {xs ys : List τ.T}

theorem lastA (As : List Asn) (A : Asn) : (As ++ [A])[As.length]? = some A := by simp
theorem setL (As : List Asn) (A B : Asn) : (As ++ [A]).set As.length B = As ++ [B] := by rw [List.set_append_right _ _ (Nat.le_refl _), Nat.sub_self]; rfl
theorem Hs.dropL {A : Asn} (st : Hs fr G (As ++ [A]) h) : Hs fr G As h := by
  have := st.drop As.length (lastA As A)
  rwa [List.eraseIdx_append_of_length_le (Nat.le_refl _), Nat.sub_self, List.eraseIdx_cons_zero, List.append_nil] at this
theorem Hs.nwX (st : Hs fr G As h) {cs : Array Value} {K : Nat → HP} (hK : ∀ b h', Ext [] h h' → Hs fr G (As ++ [cl b t cs.toList]) h' → K b h') : Sx.nw cs t K h :=
  hK h.size _ ((Ext.refl' [] h).push _) (st.new ((Ext.refl' [] h).push _) ⟨[h.size], ⟨rfl, Blk.new h t cs⟩, by simp⟩)
theorem zc_one (v : Value) (n : Nat) : (if n * 1 = 0 then (#[] : Array Value) else Builtin.zeroCells #[v] n).toList = List.replicate n v := by
  by_cases h0 : n = 0
  · subst h0; rfl
  · rw [if_neg (by omega)]
    apply List.ext_getElem
    · simp [Builtin.zeroCells]
    · intro i h1 h2; simp [Builtin.zeroCells, Nat.mod_one]

theorem Hs.apz (st : Hs fr G As h) (k : Nat) (hk : As[k]? = some (osl t τ.enc xs s)) {n : Nat} {z : τ.T} {K : Sl → HP} (hleaf : leafB (τ.enc z) = true)
    (hlen : (xs.length + n) * by_ ≤ 140737488355328) (hby : 0 < by_) (hK : ∀ s' h', Hs fr G (As.set k (osl t τ.enc (xs ++ List.replicate n z) s')) h' → K s' h') :
    Sx.apz t 1 by_ #[τ.enc z] s (n : Int) K h := by
  have hl := osl_len (st.own k hk)
  obtain ⟨S1, p, hw⟩ := st.focus k hk
  have e1 : (n : Int) * (by_ : Int) = ((n * by_ : Nat) : Int) := by rw [Int.natCast_mul]
  have hn : n * by_ ≤ 140737488355328 := Nat.le_trans (Nat.mul_le_mul_right _ (by omega)) hlen
  refine ⟨Int.natCast_nonneg _, by rw [e1]; omega, hby, by decide, ?_, ?_⟩
  · simp only [Int.toNat_natCast, zc_one]
    intro hle
    rcases p with ⟨b', rest, eS, es, hb⟩ | ⟨eS, ex, e1, e2⟩
    · subst es
      simp only at hle hl ⊢
      rw [addr_add]
      refine stA_ok _ 0 hb (by simp; omega) (by intro v hv; obtain ⟨_, rfl⟩ := List.mem_replicate.1 hv; exact hleaf) fun h' hb' x => ?_
      refine hK _ _ (hw (osl t τ.enc (xs ++ List.replicate n z) ⟨some ⟨b', 0, none⟩, xs.length + n, xs.length + rest.length⟩) [b'] _ (by rw [eS]; exact x) (.inl ⟨b', rest.drop n, rfl, ?_, ?_⟩) (by simp [eS]))
      · simp; omega
      · have e : List.take (0 + xs.length * 1 + 0) (List.map τ.enc xs ++ rest) ++ List.replicate n (τ.enc z) ++ List.drop (0 + xs.length * 1 + 0 + (List.replicate n (τ.enc z)).length) (List.map τ.enc xs ++ rest) = List.map τ.enc (xs ++ List.replicate n z) ++ rest.drop n := by
          have e1 : 0 + xs.length * 1 + 0 = (List.map τ.enc xs).length := by simp
          rw [e1, List.take_left, List.length_replicate, ← List.drop_drop, List.drop_left]
          simp
        rw [e] at hb'; exact hb'
    · subst ex
      have hn0 : n = 0 := by simp only [e1, e2] at hle; omega
      subst hn0
      obtain ⟨sa, sl, sc⟩ := s
      simp only at e1 e2
      subst e1; subst e2
      have key : ∀ a, K ⟨a, 0, 0⟩ h := fun a => hK _ _ (hw (osl t τ.enc ([] ++ List.replicate 0 z) ⟨a, 0, 0⟩) [] h (Ext.refl' _ _) (.inr ⟨rfl, rfl, rfl, rfl⟩) (by simp))
      cases sa with
      | none => exact key none
      | some a => exact key (some a)
  · simp only [Int.toNat_natCast]
    intro hgt
    simp only [hl] at hgt ⊢
    refine ⟨hlen, ?_⟩
    have key : FirstCells h s.a (xs.length * 1) (xs.map τ.enc) := by
      have := rsl_first (st.own k hk).rsl
      rwa [hl] at this
    refine ⟨_, key, fun nc h1 h2 => ?_⟩
    refine hK _ _ (hw (osl t τ.enc (xs ++ List.replicate n z) ⟨some ⟨h.size, 0, none⟩, xs.length + n, nc⟩) [h.size] _ ((Ext.refl' S1 h).push _) (.inl ⟨h.size, (Builtin.zeroCells #[τ.enc z] (nc - (xs.length + n))).toList, rfl, ?_, ?_⟩) (by simp))
    · have h1' : xs.length + n ≤ nc := h1
      simp [Builtin.zeroCells]; omega
    · have := Blk.new h t (((xs.map τ.enc).toArray ++ (if n * 1 = 0 then #[] else Builtin.zeroCells #[τ.enc z] n)) ++ Builtin.zeroCells #[τ.enc z] (nc - (xs.length + n)))
      rw [Array.toList_append, Array.toList_append, zc_one] at this
      simpa using this

theorem Hs.cpyS (st : Hs fr G As h) (k : Nat) (hk : As[k]? = some (osl t τ.enc xs s)) (hy : At h (rsl τ.enc ys s2)) (hlen : ys.length = xs.length) (hleaf : Leaf τ) {K : Int → HP}
    (hK : ∀ h', Hs fr G (As.set k (osl t τ.enc ys s)) h' → K (xs.length : Int) h') : cpy 1 s s2 K h := by
  have hl := osl_len (st.own k hk)
  have hl2 := rsl_len hy
  have hf := rsl_first hy
  have em : Nat.min s2.len s.len = s2.len := Nat.min_eq_left (by omega)
  obtain ⟨S1, p, hw⟩ := st.focus k hk
  refine ⟨ys.map τ.enc, by rw [em]; exact hf, ?_⟩
  rw [em, hl2, hlen]
  rcases p with ⟨b', rest, eS, es, hb⟩ | ⟨eS, ex, e1, e2⟩
  · subst es
    simp only
    refine stA_ok _ 0 hb (by simp; omega) (by intro v hv; obtain ⟨x, _, rfl⟩ := List.mem_map.1 hv; exact hleaf x) fun h' hb' x => ?_
    refine hK _ (hw (osl t τ.enc ys ⟨some ⟨b', 0, none⟩, xs.length, xs.length + rest.length⟩) [b'] _ (by rw [eS]; exact x) (.inl ⟨b', rest, rfl, by rw [hlen], ?_⟩) (by simp [eS]))
    have e : List.take (0 + 0) (List.map τ.enc xs ++ rest) ++ List.map τ.enc ys ++ List.drop (0 + 0 + (List.map τ.enc ys).length) (List.map τ.enc xs ++ rest) = List.map τ.enc ys ++ rest := by
      have e2 : 0 + 0 + (List.map τ.enc ys).length = (List.map τ.enc xs).length := by simp [hlen]
      rw [e2, List.drop_left]; simp
    rw [e] at hb'; exact hb'
  · subst ex
    have hy0 : ys = [] := List.eq_nil_of_length_eq_zero (by simpa using hlen)
    subst hy0
    have key : K ((([] : List τ.T).length : Nat) : Int) h := hK _ (hw (osl t τ.enc [] s) [] h (Ext.refl' _ _) (.inr ⟨rfl, rfl, e1, e2⟩) (by simp))
    cases s.a with
    | none => exact key
    | some a => exact key

theorem Hs.wrSame (st : Hs fr G As h) (k : Nat) (hk : As[k]? = some (osl t τ.enc xs s)) {i : Nat} (hi : i < xs.length) {v : τ.T} (hv : v = xs[i]) {K : HP} (hK : ∀ h', Hs fr G As h' → K h') :
    sx s.a s.len (i : Int) 1 (fun p => Sx.st1 p (τ.enc v) K) h := by
  refine st.wrE k hk hi v fun h' st => hK h' ?_
  subst hv
  rw [List.set_getElem_self] at st
  have e : As.set k (osl t τ.enc xs s) = As := by
    apply List.ext_getElem?
    intro j
    rw [List.getElem?_set]
    by_cases q : k = j
    · subst q; rw [if_pos rfl, if_pos (List.getElem?_eq_some_iff.1 hk).1, hk]
    · rw [if_neg q]
  rwa [e] at st

end

section
variable {α : Type} {n : Nat} {enc : α → List Value} {xs ys : List α} {s s2 : Sl} {fr : Fr} {G As : List Asn} {h h' : Heap} {A : Asn} {b i : Nat} {t : TypeId} {c : List Value}

theorem rsn_first (hw : Wide n enc) (hy : At h (rsn n enc ys s)) : FirstCells h s.a (s.len * n) (ys.map enc).flatten := by
  have hl := rsn_len hy
  unfold FirstCells
  cases ha : s.a with
  | none =>
    obtain ⟨S, _, _, k⟩ := hy
    rcases k with ⟨e, _⟩ | ⟨a, ea, _⟩
    · subst e; rfl
    · rw [ha] at ea; cases ea
  | some a =>
    refine ⟨by rw [flat_len hw, hl], cellsAt_of _ 0 fun i v hv => ?_⟩
    rcases Nat.eq_zero_or_pos n with hn | hn
    · subst hn
      have := flat_len hw ys
      rw [Nat.mul_zero] at this
      rw [List.eq_nil_of_length_eq_zero this] at hv; simp at hv
    · have hil : i < ys.length * n := by
        have := (List.getElem?_eq_some_iff.1 hv).1
        rwa [flat_len hw] at this
      have hq : i / n < ys.length := (Nat.div_lt_iff_lt_mul hn).2 hil
      obtain ⟨a', ea, hc⟩ := rsn_cells hy (List.getElem?_eq_getElem hq)
      rw [ha] at ea; cases ea
      have hr : i % n < n := Nat.mod_lt _ hn
      have hv2 : (enc ys[i / n])[i % n]? = some v := by
        have h1 : i % n < (enc ys[i / n]).length := by rw [hw]; exact hr
        have := flat_get hw (List.getElem?_eq_getElem hq) [] (List.getElem?_eq_getElem h1)
        rw [List.append_nil, Nat.div_add_mod' i n] at this
        rw [this] at hv
        rw [List.getElem?_eq_getElem h1]; exact hv
      have := hc (i % n) v hv2
      rw [Nat.zero_add, ← Nat.div_add_mod' i n]; exact this

theorem Hs.apdNS {by_ : Nat} {z : Array Value} {K : Sl → HP} (st : Hs fr G As h) (hw : Wide n enc) (hn : 0 < n) (k : Nat) (hk : As[k]? = some (osn t n enc xs s)) (hy : At h (rsn n enc ys s2))
    (hv : ∀ x, ∀ u ∈ enc x, leafB u = true) (hlen : (xs.length + ys.length) * by_ ≤ 140737488355328) (hby : 0 < by_) (hz : z.size = n)
    (hK : ∀ s' h', Hs fr G (As.set k (osn t n enc (xs ++ ys) s')) h' → K s' h') : Sx.apd t n by_ z s s2 K h := by
  have hl := osn_len (st.own k hk)
  have hl2 := rsn_len hy
  have hfc := rsn_first hw hy
  obtain ⟨S1, p, hwr⟩ := st.focus k hk
  have hf := osn_first hw p
  have hleafs : ∀ v ∈ (ys.map enc).flatten, leafB v = true := fun v hv' => by
    obtain ⟨l, hl, hin⟩ := List.mem_flatten.1 hv'
    obtain ⟨x, _, rfl⟩ := List.mem_map.1 hl
    exact hv x v hin
  refine ⟨_, hfc, fun hle => ?_, fun hgt => ?_⟩
  · rcases p with ⟨b', rest, cap, eS, es, hr, hb⟩ | ⟨eS, ex, e1, e2⟩
    · subst es
      simp only at hle hl ⊢
      have hc0 : ys.length ≤ cap := by omega
      have hrl : ys.length * n ≤ rest.length := by rw [hr]; exact Nat.mul_le_mul_right _ hc0
      rw [addr_add]
      refine stA_ok _ 0 hb (by rw [List.length_append, flat_len hw, flat_len hw]; omega) hleafs fun h' hb' x => ?_
      have e : List.take (0 + xs.length * n + 0) ((xs.map enc).flatten ++ rest) ++ (ys.map enc).flatten ++ List.drop (0 + xs.length * n + 0 + (ys.map enc).flatten.length) ((xs.map enc).flatten ++ rest) = ((xs ++ ys).map enc).flatten ++ rest.drop (ys.length * n) := by
        have e1 : 0 + xs.length * n + 0 = (xs.map enc).flatten.length := by rw [flat_len hw]; omega
        rw [e1, List.take_left, flat_len hw ys, ← List.drop_drop, List.drop_left]
        simp
      rw [e] at hb'
      rw [hl2]
      refine hK _ _ (hwr (osn t n enc (xs ++ ys) ⟨some ⟨b', 0, none⟩, xs.length + ys.length, xs.length + cap⟩) [b'] _ (by rw [eS]; exact x) (.inl ⟨b', rest.drop (ys.length * n), cap - ys.length, rfl, ?_, ?_, hb'⟩) (by simp [eS]))
      · simp; omega
      · rw [List.length_drop, hr, Nat.sub_mul]
    · subst ex
      have hy0 : ys = [] := by
        cases ys with
        | nil => rfl
        | cons y ys => simp only [List.length_cons] at hl2; omega
      subst hy0
      obtain ⟨sa, sl, sc⟩ := s
      simp only at e1 e2
      subst e1; subst e2
      have key : ∀ a, K ⟨a, 0, 0⟩ h := fun a => hK _ _ (hwr (osn t n enc ([] ++ []) ⟨a, 0, 0⟩) [] h (Ext.refl' _ _) (.inr ⟨rfl, rfl, rfl, rfl⟩) (by simp))
      cases sa with
      | none => simp only [hl2, List.length_nil]; exact key none
      | some a => simp only [hl2, List.length_nil, List.map_nil, List.flatten_nil, stA]; exact key (some a)
  · rw [hl, hl2] at hgt ⊢
    refine ⟨hlen, hby, ?_⟩
    rw [hl] at hf
    refine ⟨_, hf, fun nc h1 h2 => ?_⟩
    refine hK _ _ (hwr (osn t n enc (xs ++ ys) ⟨some ⟨h.size, 0, none⟩, xs.length + ys.length, nc⟩) [h.size] _ ((Ext.refl' S1 h).push _) (.inl ⟨h.size, (Builtin.zeroCells z (nc - (xs.length + ys.length))).toList, nc - (xs.length + ys.length), rfl, ?_, ?_, ?_⟩) (by simp))
    · have h1' : xs.length + ys.length ≤ nc := h1
      simp; omega
    · simp [Builtin.zeroCells, hz]
    · have := Blk.new h t (((xs.map enc).flatten.toArray ++ (ys.map enc).flatten.toArray) ++ Builtin.zeroCells z (nc - (xs.length + ys.length)))
      simpa using this

def W_cloneN (t : TypeId) (n by_ : Nat) (z : Array Value) (s : Sl) (K : Sl → HP) : HP :=
  brB (Option.isNone s.a) (K ⟨none, 0, 0⟩) (nw #[] t fun b0 => apd t n by_ z ⟨some ⟨b0, 0, none⟩, 0, 0⟩ ⟨s.a, s.len, s.cap⟩ fun s1 => K ⟨s1.a, s1.len, s1.cap⟩)
theorem Hs.cloneN {by_ : Nat} {z : Array Value} {K : Sl → HP} (st : Hs fr G As h) (hw : Wide n enc) (hn : 0 < n) (hy : At h (rsn n enc ys s)) (hv : ∀ x, ∀ u ∈ enc x, leafB u = true) (hlen : ys.length * by_ ≤ 140737488355328) (hby : 0 < by_) (hz : z.size = n)
    (hK : ∀ s' h', Hs fr G (As ++ [osn t n enc ys s']) h' → K s' h') : W_cloneN t n by_ z s K h := by
  unfold W_cloneN
  cases ha : s.a with
  | none =>
    obtain ⟨S, _, _, k⟩ := hy
    rcases k with ⟨e, _⟩ | ⟨a, ea, _⟩
    · subst e; exact hK _ _ (st.niln t n enc none)
    · rw [ha] at ea; cases ea
  | some a =>
    simp only [Option.isNone_some, brB_false, nw_eq]
    have x1 := (Ext.refl' [] h).push (.cells #[] t)
    have st1 := (st.ext x1).niln t n enc (some ⟨h.size, 0, none⟩)
    have es : (⟨some a, s.len, s.cap⟩ : Sl) = s := by rw [← ha]
    rw [es]
    refine st1.apdNS (xs := []) (s := ⟨some ⟨h.size, 0, none⟩, 0, 0⟩) hw hn As.length (by simp) (hy.ext x1) hv (by simpa using hlen) hby hz fun s' h' st2 => ?_
    simp only [List.nil_append, List.set_append_right _ _ (Nat.le_refl _), Nat.sub_self, List.set_cons_zero] at st2
    exact hK s' h' st2

end
end Go.Sx
